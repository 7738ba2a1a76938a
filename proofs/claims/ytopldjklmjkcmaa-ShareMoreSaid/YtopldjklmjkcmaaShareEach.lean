/- ShareEach: nobody waits longer than if all lagged by as much as he. -/
import Derived.Test.YtopldjklmjkcmaaShareB
import Derived.Test.YtopldjklmjkcmaaEqual
import Derived.Test.YtopldjklmjkcmaaWithin
set_option linter.unusedVariables false
namespace Go.Proofs.Ytopldjklmjkcmaa
open Go.RowKit
theorem shareDone_ex (l : List Int) (r : Int) (out : List Int) (n : Nat) (hl : l.length = n) (hok : shareOk l r) (hout : slist l r n = out) (A : Option Addr) (c : Nat) (W : World) (hs : Sl W W.heap.size A n (ints l)) :
    Calls Try.prog 25 #[.slice A n c, .int .i64 r] W fun e w' => ∃ A' c', e = .returned (.tuple #[.slice A' n c', .int .i64 0]) ∧
      Sl w' w'.heap.size A' n (ints out) ∧ Below W.heap.size W w' :=
  (shareDone_ok A n c l r W hok hs).mono fun _ _ ⟨A', c', h1, h2, h3, _⟩ => ⟨A', c', h1, by rw [hout] at h2; exact h2, h3⟩
theorem dpart_each {l : List Int} (h : lagsOk l) {i k : Nat} (hi : i < l.length) (hk : k ≤ l.length) :
    dpart l i k ≤ (if i < k then (k : Int) else k + 1) * gi l i := by
  have b := lag_bd h hi
  induction k with
  | zero => simp [dpart]
  | succ k ih =>
    have := ih (by omega)
    have c := contr_bd h hi (show k < l.length by omega)
    rw [dpart_succ]
    rcases Nat.lt_trichotomy i k with h1 | h1 | h1
    · rw [if_pos h1] at this
      rw [if_pos (by omega), Int.natCast_succ, Int.add_mul, Int.one_mul]
      omega
    · subst h1
      rw [if_neg (by omega)] at this
      rw [if_pos (by omega), Int.natCast_succ]
      have e : contr l i i = 0 := by unfold contr; rw [if_neg (by omega), if_neg (by omega)]
      omega
    · rw [if_neg (by omega)] at this
      rw [if_neg (by omega), Int.natCast_succ, Int.add_mul _ 1, Int.one_mul]
      omega
theorem dsum_each {l : List Int} (h : lagsOk l) {i : Nat} (hi : i < l.length) : dsum l i ≤ l.length * gi l i := by
  have := dpart_each h hi (Nat.le_refl _)
  rwa [if_pos hi] at this
set_option maxRecDepth 100000 in
set_option maxHeartbeats 1600000 in
theorem shareEach_walk (A : Option Addr) (n c : Nat) (l : List Int) (r i : Int) (W : World) (w0 : InInts W A n c l) (_ : -9223372036854775808 ≤ r ∧ r ≤ 9223372036854775807) (_ : -9223372036854775808 ≤ i ∧ i ≤ 9223372036854775807) :
    Calls Try.prog 12 #[.slice A n c, .int .i64 r, .int .i64 i] W fun e w' => e = .returned (.bool true) ∧ Below W.heap.size W w' := by
  obtain ⟨s1, l1, r1, _⟩ := w0
  go_enter Try.func12, Try.ntmps12
  go_wp2_with fail
  refine (shareDone_ex [2, 9] 1 [3, 11] 2 rfl ⟨⟨by decide, by decide⟩, by decide, by decide⟩ (by decide) _ _ _ (by exact Sl.built_ _ (ints [2, 9]) _ _ rfl rfl)).mono ?_
  rintro e w1 ⟨A1, c1, rfl, hs1, hb1'⟩
  have hb1 : Below W.heap.size W w1 := (below_alloc (Below.refl _ W) (.cells (ints [2, 9]).toArray 3)).trans (hb1'.mono (by simp))
  clear hb1'
  go_wp2_with fail
  refine (equal_any _ _ _ _ _ _ _ [3, 11] _ _ _ (hs1.alloc (Nat.le_refl _) _) (Sl.built w1 (ints [3, 11]) _ rfl) (by decide)).mono ?_
  rintro e w2 ⟨rfl, q, rfl⟩
  have hb2 := bel_drewN (below_alloc hb1 (.cells (ints [3, 11]).toArray 3)) q
  have s2 := s1.on hb2
  have hlen := s2.int_len
  clear hs1 hb1 s1
  go_wp2_with fail
  by_cases h : shareOk l r
  · refine (shareDone_ok A n c l r _ h s2).mono ?_
    rintro e w3 ⟨A3, c3, rfl, hx, hb3', hcap⟩
    have hb3 : Below W.heap.size W w3 := hb2.trans (hb3'.mono hb2.size)
    have s3 := s2.on hb3'
    have H := Lib.hid h
    have HL := Lib.hid hlen
    have hn : n ≤ 8 := by have := h.1.1; omega
    clear hb2 hb3' s2 h hlen
    rcases Nat.eq_zero_or_pos n with rfl | hpos
    · clear s3 hx
      go_wp2_with fail
      go_ret
      exact ⟨rfl, hb3⟩
    · have hn0 : ((n : Int) == 0) = false := by simp; omega
      have hnn : ((n : Int) != n) = false := by simp
      go_wp2_with fail
      refine (within_any i n _ (by omega) (by omega)).mono ?_
      rintro e w' ⟨rfl, rfl⟩
      have k1 := within_lo i n (by omega)
      have k2 := within_hi i n (by omega)
      obtain ⟨j, hj⟩ := Int.eq_ofNat_of_zero_le k1
      rw [hj] at k1 k2 ⊢
      clear hj
      have hjn : j < n := by omega
      obtain ⟨b, off, rfl, hbl, hc⟩ := s3.int_at hjn
      obtain ⟨b2, off2, rfl, hbl2, hc2⟩ := hx.int_at hjn
      rw [slist_get _ _ hjn] at hc2
      have hli := lag_bd H.out.1 (i := j) (by rw [HL.out]; exact hjn)
      have hD := dsum_bd H.out.1 (i := j) (by rw [HL.out]; exact hjn)
      have hE := dsum_each H.out.1 (i := j) (by rw [HL.out]; exact hjn)
      rw [HL.out] at hE
      have hr1 := H.out.2.1
      have hr2 := H.out.2.2
      have hhi := ceil_hi (d := dsum l j) hr1
      have hlo := ceil_lo (d := dsum l j) hr1
      have hcl := ceil_le (d := dsum l j) hr1 (by omega)
      have hc0 := ceil_nonneg (d := dsum l j) hr1 (by omega)
      have p1 : (n : Int) * gi l j ≤ 8 * 1000 := Int.mul_le_mul (by omega) hli.2 hli.1 (by omega)
      have p2 : 0 ≤ (n : Int) * gi l j := Int.mul_nonneg (by omega) hli.1
      have p3 : -10000 ≤ (ceil (dsum l j) r - 1) * r := by
        have : 0 ≤ ceil (dsum l j) r * r := Int.mul_nonneg hc0 (by omega)
        rw [Int.sub_mul, Int.one_mul]
        omega
      have hcl2 : ceil (dsum l j) r ≤ 9000 := by omega
      have e1 : wrap64 ((ceil (dsum l j) r - 1) * r) = (ceil (dsum l j) r - 1) * r := IntWalk.wrap64_in _ ⟨by omega, by omega⟩
      have e2 : wrap64 ((n : Int) * gi l j) = (n : Int) * gi l j := IntWalk.wrap64_in _ ⟨by omega, by omega⟩
      have t1 : decide ((ceil (dsum l j) r - 1) * r < (n : Int) * gi l j) = true := by simp; omega
      clear s3 hx hhi hlo p3 hE hD p1 p2
      go_wp2_with fail
      go_quiet (fail)
      go_wp2_with fail
      go_ret
      exact ⟨rfl, bel_drewN hb3 _⟩
  · refine (shareDone_bad A n c l r _ _ h s2 (by omega)).mono ?_
    rintro e w3 ⟨rfl, rfl⟩
    have hne : (shareErr l r != 0) = true := by unfold shareErr; split <;> rfl
    clear s2 h hlen
    go_wp2_with fail
    go_ret
    exact ⟨rfl, hb2⟩
end Go.Proofs.Ytopldjklmjkcmaa
