/- RanksFirst: the first task responds within its work, and every task in at least its own work plus that of higher priorities. -/
import Derived.Test.YtigekbidbeilnaaRanksA
set_option linter.unusedVariables false
namespace Go.Proofs.Ytigekbidbeilnaa
open Go.RowKit
/-- What all up to k take once. -/
def wsum (zs : List Int) : Nat → Int
  | 0 => 0
  | k + 1 => wsum zs k + fd zs k 1
theorem wsum_succ (zs : List Int) (k : Nat) : wsum zs (k + 1) = wsum zs k + fd zs k 1 := rfl
theorem wsum_bd {zs : List Int} {n : Nat} (h : ∀ i, i < n → taskOk zs i) (k : Nat) (hk : k ≤ n) : 0 ≤ wsum zs k ∧ wsum zs k ≤ 60 * k := by
  induction k with
  | zero => exact ⟨Int.le_refl _, by simp [wsum]⟩
  | succ k ih =>
    have a := ih (by omega)
    obtain ⟨t0, t1, t2, t3, t4⟩ := h k (by omega)
    rw [wsum_succ]
    omega
theorem wsum_le {zs : List Int} {n : Nat} (h : ∀ i, i < n → taskOk zs i) {R : Int} (hR : 1 ≤ R) (k : Nat) (hk : k ≤ n) : wsum zs k ≤ rsum zs R k := by
  induction k with
  | zero => exact Int.le_refl _
  | succ k ih =>
    have a := ih (by omega)
    obtain ⟨t0, t1, t2, t3, t4⟩ := h k (by omega)
    have u : 1 ≤ upv R (fd zs k 0) := (Int.le_ediv_iff_mul_le (by omega)).2 (by omega)
    have b := Int.mul_le_mul_of_nonneg_right u (show 0 ≤ fd zs k 1 by omega)
    rw [wsum_succ, rsum_succ]
    omega
set_option maxRecDepth 100000 in
set_option maxHeartbeats 3200000 in
theorem ranksFirst_walk (A : Option Addr) (n c : Nat) (zs : List Int) (i : Int) (W : World) (w0 : In3 W A n c zs) (_ : -9223372036854775808 ≤ i ∧ i ≤ 9223372036854775807) :
    Calls Try.prog 8 #[.slice A n c, .int .i64 i] W fun e w' => e = .returned (.bool true) ∧ Below W.heap.size W w' := by
  obtain ⟨s0, l0, r0, _⟩ := w0
  go_enter Try.func8, Try.ntmps8
  go_wp2_with fail
  refine (rank_any W).mono ?_
  rintro e w1 ⟨rfl, s1, b1⟩
  have s01 := s0.on b1
  go_wp2_with fail
  refine (response_any _ 2 2 [4, 1, 4, 6, 3, 6] 0 _ (by omega) (by omega) s1).mono ?_
  rintro e w2 ⟨⟨v, er, rfl, hv⟩, b2⟩
  have hv1 : v = 1 ∧ er = 0 := by
    have ok : ranksOk [4, 1, 4, 6, 3, 6] 2 := ⟨by omega, fun i hi => by
      match i, hi with
      | 0, _ => decide
      | 1, _ => decide⟩
    have top : ∀ R, respIs [4, 1, 4, 6, 3, 6] 0 R → R = 1 := fun R hR => by
      have a : (1 : Int) ≤ R := hR.1
      have b : R ≤ 1 := hR.2.2.2 1 (by decide) (by decide)
      omega
    rcases hv with ⟨_, _, h | h | h | ⟨R, h, h2⟩⟩ | ⟨h1, _, _, _, h2, _⟩
    · exact absurd ok h
    · omega
    · omega
    · have := top R h
      subst this
      exact absurd h2 (by decide)
    · exact ⟨top v h2, h1⟩
  obtain ⟨rfl, rfl⟩ := hv1
  have s02 := s01.on b2
  have b02 := b1.trans (b2.mono b1.size)
  clear hv s0 s1 s01 b1 b2
  go_wp2_with fail
  refine (response_any A n c zs i _ l0 (by omega) s02).mono ?_
  rintro e w3 ⟨⟨v, er, rfl, hv⟩, b3⟩
  have s03 := s02.on b3
  have b03 := b02.trans (b3.mono b02.size)
  clear s02 b02 b3
  rcases hv with ⟨rfl, her, _⟩ | ⟨rfl, ok, i0, i1, hR, hD⟩
  · have hne : (er != 0) = true := by simpa using her
    clear her s03
    go_wp2_with fail
    go_ret
    exact ⟨rfl, b03⟩
  · obtain ⟨k, rfl⟩ := Int.eq_ofNat_of_zero_le i0
    rw [Int.toNat_natCast] at hR hD
    have hk : k < n := by omega
    have OK := Lib.hid ok
    have HR := Lib.hid hR
    have n5 := ok.1
    obtain ⟨t0, t1, t2, t3, t4⟩ := ok.2 k hk
    obtain ⟨z0, z1, z2, z3, z4⟩ := ok.2 0 (by omega)
    have fin : fd zs k 1 + rsum zs v k = v := hR.2.2.1 hD
    have v1 : 1 ≤ v := by have := hR.1; omega
    have ws := wsum_le ok.2 v1 k (by omega)
    have hsum : wsum zs (k + 1) ≤ v := by rw [wsum_succ]; omega
    have hfirst : k = 0 → v = fd zs 0 1 := fun h => by subst h; rw [← fin]; simp [rsum]
    have HF := Lib.hid hfirst
    have HS := Lib.hid hsum
    have e1 : IntKind.i64.wrap ((k : Int) + 1) = (k : Int) + 1 := IntWalk.i64_in _ ⟨by omega, by omega⟩
    have e2 : (0 : Int) ≤ (k : Int) + 1 := by omega
    have e3 : (k : Int) + 1 ≤ c := by omega
    have e4 : ((k : Int) + 1).toNat = k + 1 := by omega
    have hkI : (k : Int) < n := by omega
    have hkn : ¬ (n : Int) ≤ k := by omega
    have hk0 : ¬ (k : Int) < 0 := by omega
    have hk00 : (0 : Int) ≤ k := by omega
    have B3 := Lib.hid b03
    have z5 := s03
    obtain ⟨b, off, rfl, hbl, -⟩ := s03.int_at (k := 0) (by omega)
    clear z5 ok hR fin ws hsum hfirst b03
    go_wp2_with fail
    go_loopw [52, 9, 11] (fun j q _ wr => ∃ m : Nat, m ≤ k + 1 ∧ j = .int .i64 m ∧ q = .int .i64 (wsum zs m) ∧ Below w3.heap.size w3 wr) (fun j _ _ _ => k + 1 - (intOf j).toNat)
    case atStart => exact ⟨0, Nat.zero_le _, rfl, rfl, Below.refl _ _⟩
    case round =>
      obtain ⟨m, hm, rfl, rfl, hb⟩ := hrel
      have HB := Lib.hid hb
      have wb := wsum_bd OK.out.2 m (by omega)
      by_cases hlt : m < k + 1
      · obtain ⟨c0, c1, c2⟩ := (s03.below hb).three (k := m) (by omega)
        obtain ⟨p0, p1, p2, p3, p4⟩ := OK.out.2 m (by omega)
        have hz := hb.size
        have hm1 : (m : Int) < (k : Int) + 1 := by omega
        have hm0 : (0 : Int) ≤ m := by omega
        have hsu := wsum_succ zs m
        obtain ⟨q, hq⟩ : ∃ q, wsum zs m = q := ⟨_, rfl⟩
        rw [hq] at wb hsu ⊢
        have HSU := Lib.hid hsu
        clear hb hq hsu s03
        go_wp2_with fail
        go_roundw
        case rel => exact ⟨m + 1, by omega, by go_num, by rw [HSU.out], HB.out.alloc hz _⟩
        case measure => simp [intOf]; omega
      · have hmk : Hid (m = k + 1) := by show m = k + 1; omega
        have hm1 : ¬ (m : Int) < (k : Int) + 1 := by omega
        obtain ⟨c0, c1, c2⟩ := (s03.below hb).three hk
        obtain ⟨d0, d1, d2⟩ := (s03.below hb).three (k := 0) (by omega)
        simp only [Nat.zero_mul, Nat.add_zero] at d0 d1 d2
        have hs2 : wsum zs m ≤ v := by rw [hmk.out]; exact HS.out
        obtain ⟨q, hq⟩ : ∃ q, wsum zs m = q := ⟨_, rfl⟩
        rw [hq] at wb hs2 ⊢
        have hnz : (0 : Int) < n := by omega
        have hnz2 : 0 < n := by omega
        clear hb hq s03
        by_cases hk1 : 0 < k
        · have hk2 : (0 : Int) < k := by omega
          go_wp2_with fail
          go_ret
          exact ⟨rfl, B3.out.trans (HB.out.mono B3.out.size)⟩
        · have hv : (v == fd zs 0 1) = true := by have := HF.out (by omega); simpa using this
          have hD0 : v ≤ fd zs 0 2 := by rw [show (0 : Nat) = k by omega]; exact hD
          have hd0 := decide_eq_true hD0
          have hk2 : k = 0 := by omega
          clear hk1
          go_wp2_with fail
          go_ret
          exact ⟨rfl, B3.out.trans (HB.out.mono B3.out.size)⟩
end Go.Proofs.Ytigekbidbeilnaa
