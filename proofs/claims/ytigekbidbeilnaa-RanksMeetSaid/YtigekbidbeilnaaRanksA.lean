/- ranks.Check, up, response, Response. -/
import Derived.Test.YtigekbidbeilnaaElems
import Derived.Test.YtigekbidbeilnaaOpen3
import Derived.Test.YtigekbidbeilnaaCurveP
set_option linter.unusedVariables false
namespace Go.Proofs.Ytigekbidbeilnaa
open Go.RowKit
def taskOk (zs : List Int) (i : Nat) : Prop := 1 ≤ fd zs i 0 ∧ fd zs i 0 ≤ 60 ∧ 1 ≤ fd zs i 1 ∧ fd zs i 1 ≤ fd zs i 2 ∧ fd zs i 2 ≤ fd zs i 0
instance (zs : List Int) (i : Nat) : Decidable (taskOk zs i) := by unfold taskOk; infer_instance
def ranksOk (zs : List Int) (n : Nat) : Prop := n ≤ 5 ∧ ∀ i, i < n → taskOk zs i
def ranksErr (n : Nat) : Int := if 5 < n then 2 else 1
theorem ranksErr_ne (n : Nat) : (ranksErr n != 0) = true := by unfold ranksErr; split <;> rfl
theorem rcheck_ok (A : Option Addr) (n c : Nat) (zs : List Int) (W : World) (h : ranksOk zs n) (hs : Sl W W.heap.size A (n * 3) (ints zs)) :
    Calls Try.prog 32 #[.slice A n c] W fun e w' => e = .returned (.int .i64 0) ∧ Below W.heap.size W w' := by
  obtain ⟨h1, h2⟩ := h
  have g1 : ¬ (5 < (n : Int)) := by omega
  have H2 := Lib.hid h2
  clear h2
  go_enter Try.func32, Try.ntmps32
  go_wp2_with fail
  go_loopw [10, 4] (fun i _ wr => ∃ k : Nat, k ≤ n ∧ i = .int .i64 k ∧ Below W.heap.size W wr) (fun i _ _ => n - (intOf i).toNat)
  case atStart => exact ⟨0, Nat.zero_le _, rfl, Below.refl _ _⟩
  case round =>
    obtain ⟨k, hk, rfl, hb⟩ := hrel
    have HB := Lib.hid hb
    by_cases hlt : k < n
    · obtain ⟨b, off, rfl, hbl, -⟩ := hs.int_at (k := k * 3) (by omega)
      obtain ⟨c0, c1, c2⟩ := (hs.below hb).three hlt
      obtain ⟨y0, y1, y2, y3, y4⟩ := H2.out k hlt
      have hn1 : (k : Int) < n := by omega
      have hk0 : (0 : Int) ≤ k := by omega
      have hz := hb.size
      clear hs hb
      go_wp2_with fail
      go_roundw
      case rel => exact ⟨k + 1, by omega, by go_num, HB.out.alloc hz _⟩
      case measure => simp [intOf]; omega
    · have hn1 : ¬ (k : Int) < n := by omega
      clear hs hb
      go_wp2_with fail
      go_ret
      exact ⟨rfl, HB.out⟩
theorem rcheck_bad (A : Option Addr) (n c : Nat) (zs : List Int) (W : World) (h : ¬ ranksOk zs n) (hs : Sl W W.heap.size A (n * 3) (ints zs)) (hnn : n ≤ 9223372036854775807) :
    Calls Try.prog 32 #[.slice A n c] W fun e w' => e = .returned (.int .i64 (ranksErr n)) ∧ Below W.heap.size W w' := by
  by_cases h8 : 5 < n
  · have hf : Hid (ranksErr n = 2) := by unfold ranksErr; rw [if_pos h8]; rfl
    have g1 : 5 < (n : Int) := by omega
    clear h hs
    go_enter Try.func32, Try.ntmps32
    go_wp2_with fail
    go_ret
    exact ⟨ret_int hf.out.symm, Below.refl _ _⟩
  · have hf : Hid (ranksErr n = 1) := by unfold ranksErr; rw [if_neg h8]; rfl
    have g1 : ¬ 5 < (n : Int) := by omega
    rcases first_bad3 (taskOk zs) n with hall | ⟨k, k1, k3, k2⟩
    · exact absurd ⟨by omega, hall⟩ h
    · have H3 := Lib.hid k3
      have K2 := Lib.hid k2
      clear h k3 k2
      go_enter Try.func32, Try.ntmps32
      go_wp2_with fail
      go_loopw [10, 4] (fun i _ wr => ∃ j : Nat, j ≤ k ∧ i = .int .i64 j ∧ Below W.heap.size W wr) (fun i _ _ => k - (intOf i).toNat)
      case atStart => exact ⟨0, Nat.zero_le _, rfl, Below.refl _ _⟩
      case round =>
        obtain ⟨j, hj, rfl, hb⟩ := hrel
        have HB := Lib.hid hb
        obtain ⟨b, off, rfl, hbl, -⟩ := hs.int_at (k := j * 3) (by omega)
        obtain ⟨c0, c1, c2⟩ := (hs.below hb).three (k := j) (by omega)
        have hn1 : (j : Int) < n := by omega
        have hk0 : (0 : Int) ≤ j := by omega
        have hz := hb.size
        by_cases hlt : j < k
        · obtain ⟨y0, y1, y2, y3, y4⟩ := H3.out j hlt
          clear hs hb
          go_wp2_with fail
          go_roundw
          case rel => exact ⟨j + 1, by omega, by go_num, HB.out.alloc hz _⟩
          case measure => simp [intOf]; omega
        · have hjk : j = k := by omega
          subst hjk
          have k4 := K2.out
          have hcase : fd zs j 0 < 1 ∨ (1 ≤ fd zs j 0 ∧ 60 < fd zs j 0) ∨ (1 ≤ fd zs j 0 ∧ fd zs j 0 ≤ 60 ∧ fd zs j 1 < 1) ∨ (1 ≤ fd zs j 0 ∧ fd zs j 0 ≤ 60 ∧ 1 ≤ fd zs j 1 ∧ fd zs j 2 < fd zs j 1) ∨ (1 ≤ fd zs j 0 ∧ fd zs j 0 ≤ 60 ∧ 1 ≤ fd zs j 1 ∧ fd zs j 1 ≤ fd zs j 2 ∧ fd zs j 0 < fd zs j 2) := by
            unfold taskOk at k4; omega
          clear hs hb k4
          rcases hcase with h | ⟨h1, h⟩ | ⟨h1, h2, h⟩ | ⟨h1, h2, h3, h⟩ | ⟨h1, h2, h3, h4, h⟩
          all_goals
            go_wp2_with fail
            go_ret
            exact ⟨ret_int hf.out.symm, HB.out.alloc hz _⟩
/-- Rounded up. -/
def upv (r p : Int) : Int := (r + p - 1) / p
theorem up_ok (r p : Int) (W : World) (r0 : 0 ≤ r) (r1 : r ≤ 100000) (p0 : 1 ≤ p) (p1 : p ≤ 60) :
    Calls Try.prog 37 #[.int .i64 r, .int .i64 p] W fun e w' => e = .returned (.int .i64 (upv r p)) ∧ w' = W := by
  obtain ⟨z, hz⟩ : ∃ z, (r + p - 1) / p = z := ⟨_, rfl⟩
  have e0 : Hid (upv r p = z) := hz
  have g5 : (p == 0) = false := by simp; omega
  have g6 : p ≠ 0 := by omega
  have z0 : 0 ≤ z := by rw [← hz]; exact Int.ediv_nonneg (by omega) (by omega)
  have z1 : z ≤ 100060 := by rw [← hz]; exact Int.le_trans (Int.ediv_le_self _ (by omega)) (by omega)
  have hzt : (r + p - 1).tdiv p = z := by rw [Int.tdiv_eq_ediv_of_nonneg (by omega)]; exact hz
  go_enter Try.func37, Try.ntmps37
  go_wp2_with fail
  go_ret
  exact ⟨by rw [e0.out]; rfl, rfl⟩
/-- What those ahead take by r. -/
def rsum (zs : List Int) (r : Int) : Nat → Int
  | 0 => 0
  | k + 1 => rsum zs r k + upv r (fd zs k 0) * fd zs k 1
theorem rsum_succ (zs : List Int) (r : Int) (k : Nat) : rsum zs r (k + 1) = rsum zs r k + upv r (fd zs k 0) * fd zs k 1 := rfl
theorem upv_mono {r s p : Int} (hp : 1 ≤ p) (h : r ≤ s) : upv r p ≤ upv s p := Int.ediv_le_ediv (by omega) (by omega)
theorem upv_bd {r p : Int} (r0 : 0 ≤ r) (hp : 1 ≤ p) : 0 ≤ upv r p ∧ upv r p ≤ r + p := by
  refine ⟨Int.ediv_nonneg (by omega) (by omega), ?_⟩
  exact Int.le_trans (Int.ediv_le_self _ (by omega)) (by omega)
theorem rsum_mono {zs : List Int} {n : Nat} (h : ∀ i, i < n → taskOk zs i) {r s : Int} (hrs : r ≤ s) (k : Nat) (hk : k ≤ n) : rsum zs r k ≤ rsum zs s k := by
  induction k with
  | zero => exact Int.le_refl _
  | succ k ih =>
    rw [rsum_succ, rsum_succ]
    have a := ih (by omega)
    obtain ⟨t0, _, t1, _⟩ := h k (by omega)
    have b := Int.mul_le_mul_of_nonneg_right (upv_mono t0 hrs) (show 0 ≤ fd zs k 1 by omega)
    omega
theorem rterm_bd {zs : List Int} {i : Nat} (h : taskOk zs i) {r : Int} (r0 : 0 ≤ r) (r1 : r ≤ 60) : 0 ≤ upv r (fd zs i 0) ∧ upv r (fd zs i 0) ≤ 120 ∧ 0 ≤ upv r (fd zs i 0) * fd zs i 1 ∧ upv r (fd zs i 0) * fd zs i 1 ≤ 7200 := by
  obtain ⟨t0, t1, t2, t3, t4⟩ := h
  have u := upv_bd r0 t0
  have a := Int.mul_nonneg u.1 (show 0 ≤ fd zs i 1 by omega)
  have b := Int.mul_le_mul_of_nonneg_right (show upv r (fd zs i 0) ≤ 120 by omega) (show 0 ≤ fd zs i 1 by omega)
  omega
theorem rsum_bd {zs : List Int} {n : Nat} (h : ∀ i, i < n → taskOk zs i) {r : Int} (r0 : 0 ≤ r) (r1 : r ≤ 60) (k : Nat) (hk : k ≤ n) : 0 ≤ rsum zs r k ∧ rsum zs r k ≤ 7200 * k := by
  induction k with
  | zero => exact ⟨Int.le_refl _, by simp [rsum]⟩
  | succ k ih =>
    have a := ih (by omega)
    have b := rterm_bd (h k (by omega)) r0 r1
    rw [rsum_succ]
    omega
theorem rsum_nonneg {zs : List Int} {n : Nat} (h : ∀ i, i < n → taskOk zs i) {r : Int} (r0 : 0 ≤ r) (k : Nat) (hk : k ≤ n) : 0 ≤ rsum zs r k := by
  induction k with
  | zero => exact Int.le_refl _
  | succ k ih =>
    have a := ih (by omega)
    obtain ⟨t0, t1, t2, t3, t4⟩ := h k (by omega)
    have b := Int.mul_nonneg (upv_bd r0 t0).1 (show 0 ≤ fd zs k 1 by omega)
    rw [rsum_succ]
    omega
theorem below_dr3 {W w : World} (h : Below W.heap.size W w) (q : Nat) : Below W.heap.size W (w.drewN q) := ⟨h.os, h.tape, h.output, h.size, h.block⟩
/-- What response answers. -/
def respIs (zs : List Int) (i : Nat) (R : Int) : Prop := fd zs i 1 ≤ R ∧ R ≤ 40000 ∧ (R ≤ fd zs i 2 → fd zs i 1 + rsum zs R i = R) ∧ ∀ x, fd zs i 1 + rsum zs x i ≤ x → 0 ≤ x → R ≤ x
set_option maxHeartbeats 3200000 in
theorem resp_any (A : Option Addr) (n c : Nat) (zs : List Int) (i : Nat) (W : World) (h : ranksOk zs n) (hi : i < n) (hc : n ≤ c) (hs : Sl W W.heap.size A (n * 3) (ints zs)) :
    Calls Try.prog 33 #[.slice A n c, .int .i64 i] W fun e w' => (∃ R, e = .returned (.int .i64 R) ∧ respIs zs i R) ∧ Below W.heap.size W w' := by
  obtain ⟨h1, h2⟩ := h
  obtain ⟨t0, t1, t2, t3, t4⟩ := h2 i hi
  have H2 := Lib.hid h2
  have hiI : (i : Int) < n := by omega
  have hi0 : (0 : Int) ≤ i := by omega
  have hic : (i : Int) ≤ c := by omega
  have hic2 : i ≤ c := by omega
  obtain ⟨b, off, rfl, hbl, -⟩ := hs.int_at (k := i * 3) (by omega)
  obtain ⟨c0, c1, c2⟩ := hs.three hi
  clear h2
  go_enter Try.func33, Try.ntmps33
  go_wp2_with fail
  clear c0 c1 c2
  go_loopw [5, 6, 8] (fun r _ _ wr => ∃ R : Int, r = .int .i64 R ∧ fd zs i 1 ≤ R ∧ R ≤ 40000 ∧ R ≤ fd zs i 1 + rsum zs R i ∧ (∀ x, fd zs i 1 + rsum zs x i ≤ x → 0 ≤ x → R ≤ x) ∧ Below W.heap.size W wr) (fun r _ _ _ => (fd zs i 2 + 1 - intOf r).toNat)
  case atStart =>
    refine ⟨_, rfl, Int.le_refl _, by omega, ?_, fun x hx h0 => ?_, Below.refl _ _⟩
    · have := rsum_nonneg (fun j hj => H2.out j (by omega)) (show 0 ≤ fd zs i 1 by omega) i (Nat.le_refl _); omega
    · have := rsum_nonneg (fun j hj => H2.out j (by omega)) h0 i (Nat.le_refl _); omega
  case round =>
    obtain ⟨R, rfl, r1, r2, r3, r4, hb⟩ := hrel
    obtain ⟨c0, c1, c2⟩ := (hs.below hb).three hi
    have hz := hb.size
    have HB := Lib.hid hb
    have R3 := Lib.hid r3
    have R4 := Lib.hid r4
    clear r3 r4 hb
    by_cases hR : R ≤ fd zs i 2
    · go_wp2_with fail
      clear c0 c1 c2
      go_loopw [30, 6, 8] (fun j v _ wr => ∃ k : Nat, k ≤ i ∧ j = .int .i64 k ∧ v = .int .i64 (fd zs i 1 + rsum zs R k) ∧ Below W.heap.size W wr) (fun j _ _ _ => i - (intOf j).toNat)
      case atStart => exact ⟨0, Nat.zero_le _, rfl, by simp [rsum], HB.out⟩
      case round =>
        obtain ⟨k, hk, rfl, rfl, hb⟩ := hrel
        have HB2 := Lib.hid hb
        by_cases hlt : k < i
        · obtain ⟨d0, d1, d2⟩ := (hs.below hb).three (k := k) (by omega)
          have hm1 : (k : Int) < i := by omega
          have hm0 : (0 : Int) ≤ k := by omega
          have hz2 := hb.size
          have tk := rterm_bd (H2.out k (by omega)) (show 0 ≤ R by omega) (show R ≤ 60 by omega)
          have ts := rsum_bd (fun j hj => H2.out j (by omega)) (show 0 ≤ R by omega) (show R ≤ 60 by omega) k (Nat.le_of_lt hlt)
          obtain ⟨p0, p1, p2, p3, p4⟩ := H2.out k (by omega)
          have hsu := rsum_succ zs R k
          obtain ⟨u, hu⟩ : ∃ u, upv R (fd zs k 0) = u := ⟨_, rfl⟩
          obtain ⟨x, hx⟩ : ∃ x, u * fd zs k 1 = x := ⟨_, rfl⟩
          obtain ⟨q, hq⟩ : ∃ q, rsum zs R k = q := ⟨_, rfl⟩
          have UP : Hid (∀ W, Calls Try.prog 37 #[.int .i64 R, .int .i64 (fd zs k 0)] W fun e w' => e = .returned (.int .i64 u) ∧ w' = W) := by
            show ∀ W, _
            intro W
            rw [← hu]
            exact up_ok R (fd zs k 0) W (by omega) (by omega) p0 p1
          rw [hu, hx, hq] at hsu
          rw [hu, hx] at tk
          rw [hq] at ts ⊢
          have HS : Hid (fd zs i 1 + rsum zs R (k + 1) = fd zs i 1 + q + x) := by show _ = _; rw [hsu]; omega
          have f1 : IntKind.i64.wrap (u * fd zs k 1) = x := by rw [hx]; exact IntWalk.i64_in _ ⟨by omega, by omega⟩
          have f2 : IntKind.i64.wrap (fd zs i 1 + q + x) = fd zs i 1 + q + x := IntWalk.i64_in _ ⟨by omega, by omega⟩
          clear hb hu hx hq hsu hs
          go_wp2_with fail
          go_quiet ((go_at_call 37; exact Calls.quiet_of_same (UP.out _)))
          go_wp2_with fail
          go_roundw
          case rel => exact ⟨k + 1, by omega, by go_num, by rw [HS.out], below_dr3 (HB2.out.alloc hz2 _) _⟩
          case measure => simp [intOf]; omega
        · have hki : k = i := by omega
          subst hki
          have hm1 : ¬ (k : Int) < k := by omega
          have ts := rsum_bd (fun j hj => H2.out j (by omega)) (show 0 ≤ R by omega) (show R ≤ 60 by omega) k (Nat.le_refl _)
          obtain ⟨q, hq⟩ : ∃ q, rsum zs R k = q := ⟨_, rfl⟩
          have Q := Lib.hid hq
          rw [hq] at ts ⊢
          have R3' := R3.out
          rw [hq] at R3'
          clear hb hq hs
          by_cases hend : fd zs k 1 + q = R
          · have he : (fd zs k 1 + q == R) = true := by simpa using hend
            have HE := Lib.hid hend
            clear hend R3'
            go_wp2_with fail
            go_ret
            exact ⟨⟨R, rfl, r1, r2, fun _ => by rw [Q.out]; exact HE.out, R4.out⟩, HB2.out⟩
          · have he : (fd zs k 1 + q == R) = false := by simpa using hend
            have hgt : R < fd zs k 1 + q := by omega
            clear hend R3'
            go_wp2_with fail
            go_roundw
            case rel =>
              refine ⟨fd zs k 1 + q, rfl, by omega, by omega, ?_, fun x hx h0 => ?_, HB2.out⟩
              · have := rsum_mono (fun j hj => H2.out j (by omega)) (show R ≤ fd zs k 1 + q by omega) k (Nat.le_refl _)
                rw [Q.out] at this
                omega
              · have a := R4.out x hx h0
                have := rsum_mono (fun j hj => H2.out j (by omega)) a k (Nat.le_refl _)
                rw [Q.out] at this
                omega
            case measure => simp [intOf]; omega
    · have hR2 : ¬ R ≤ fd zs i 2 := hR
      clear hs hR2
      go_wp2_with fail
      go_ret
      exact ⟨⟨R, rfl, r1, r2, fun h => absurd h (by omega), R4.out⟩, HB.out⟩
/-- What Response answers. -/
def RespR (zs : List Int) (n : Nat) (i : Int) (v er : Int) : Prop :=
  (v = 0 ∧ er ≠ 0 ∧ (¬ ranksOk zs n ∨ i < 0 ∨ (n : Int) ≤ i ∨ ∃ R, respIs zs i.toNat R ∧ fd zs i.toNat 2 < R)) ∨ (er = 0 ∧ ranksOk zs n ∧ 0 ≤ i ∧ i < n ∧ respIs zs i.toNat v ∧ v ≤ fd zs i.toNat 2)
theorem response_any (A : Option Addr) (n c : Nat) (zs : List Int) (i : Int) (W : World) (hc : n ≤ c) (hnn : n ≤ 9223372036854775807) (hs : Sl W W.heap.size A (n * 3) (ints zs)) :
    Calls Try.prog 23 #[.slice A n c, .int .i64 i] W fun e w' => (∃ v er, e = .returned (.tuple #[.int .i64 v, .int .i64 er]) ∧ RespR zs n i v er) ∧ Below W.heap.size W w' := by
  by_cases h : ranksOk zs n
  · have H := Lib.hid h
    by_cases h0 : i < 0
    · clear h
      go_enter Try.func23, Try.ntmps23
      go_wp2_with fail
      refine (rcheck_ok A n c zs _ H.out hs).mono ?_
      rintro e w1 ⟨rfl, b1⟩
      clear hs
      go_wp2_with fail
      go_ret2
      exact ⟨⟨0, 1, rfl, .inl ⟨rfl, by omega, .inr (.inl h0)⟩⟩, b1⟩
    · by_cases h1 : (n : Int) ≤ i
      · clear h
        go_enter Try.func23, Try.ntmps23
        go_wp2_with fail
        refine (rcheck_ok A n c zs _ H.out hs).mono ?_
        rintro e w1 ⟨rfl, b1⟩
        clear hs
        go_wp2_with fail
        go_ret2
        exact ⟨⟨0, 1, rfl, .inl ⟨rfl, by omega, .inr (.inr (.inl h1))⟩⟩, b1⟩
      · obtain ⟨k, rfl⟩ := Int.eq_ofNat_of_zero_le (show 0 ≤ i by omega)
        have hk : k < n := by omega
        have hkI : (k : Int) < n := by omega
        have hk0 : (0 : Int) ≤ k := by omega
        clear h h0 h1
        go_enter Try.func23, Try.ntmps23
        go_wp2_with fail
        refine (rcheck_ok A n c zs _ H.out hs).mono ?_
        rintro e w1 ⟨rfl, b1⟩
        have s1 := hs.on b1
        clear hs
        go_wp2_with fail
        refine (resp_any A n c zs k _ H.out hk hc s1).mono ?_
        rintro e w2 ⟨⟨R, rfl, hR⟩, b2⟩
        have s2 := s1.on b2
        have b3 := b1.trans (b2.mono b1.size)
        obtain ⟨b, off, rfl, hbl, -⟩ := s2.int_at (k := k * 3) (by omega)
        obtain ⟨c0, c1, c2⟩ := s2.three hk
        have HR := Lib.hid hR
        clear s1 s2 b1 b2 hR
        by_cases hd : fd zs k 2 < R
        · have HD := Lib.hid hd
          go_wp2_with fail
          go_ret2
          exact ⟨⟨0, 8, rfl, .inl ⟨rfl, by omega, .inr (.inr (.inr ⟨R, by rw [Int.toNat_natCast]; exact HR.out, by rw [Int.toNat_natCast]; exact HD.out⟩))⟩⟩, b3⟩
        · have hd2 : R ≤ fd zs k 2 := by omega
          have HD := Lib.hid hd2
          clear hd2
          go_wp2_with fail
          go_ret2
          exact ⟨⟨R, 0, rfl, .inr ⟨rfl, H.out, hk0, hkI, by rw [Int.toNat_natCast]; exact HR.out, by rw [Int.toNat_natCast]; exact HD.out⟩⟩, b3⟩
  · have hne := ranksErr_ne n
    have H := Lib.hid h
    clear h
    go_enter Try.func23, Try.ntmps23
    go_wp2_with fail
    refine (rcheck_bad A n c zs _ H.out hs hnn).mono ?_
    rintro e w1 ⟨rfl, b1⟩
    clear hs
    go_wp2_with fail
    go_ret2
    exact ⟨⟨0, ranksErr n, rfl, .inl ⟨rfl, by simpa using hne, .inl H.out⟩⟩, b1⟩
/-- The two tasks of headkeep.rank. -/
theorem rank_any (W : World) : Calls Try.prog 24 #[] W fun e w' => e = .returned (.slice (some ⟨W.heap.size, 0, none⟩) 2 2) ∧ Sl w' w'.heap.size (some ⟨W.heap.size, 0, none⟩) (2 * 3) (ints [4, 1, 4, 6, 3, 6]) ∧ Below W.heap.size W w' := by
  go_enter Try.func24, Try.ntmps24
  go_wp2_with fail
  go_ret
  exact ⟨rfl, Sl.built_ W (ints [4, 1, 4, 6, 3, 6]) _ _ rfl rfl, (Below.refl _ _).alloc (Nat.le_refl _) _⟩
end Go.Proofs.Ytigekbidbeilnaa
