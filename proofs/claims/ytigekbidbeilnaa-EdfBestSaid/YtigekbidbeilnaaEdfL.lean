/- edf.Late. -/
import Derived.Test.YtigekbidbeilnaaEdfS
set_option linter.unusedVariables false
namespace Go.Proofs.Ytigekbidbeilnaa
open Go.RowKit
/-- Job i is done in time. -/
def intime (zs : List Int) (n i : Nat) : Prop := edone zs n 200 i ≠ 0 ∧ edone zs n 200 i ≤ fd zs i 2
instance (zs : List Int) (n i : Nat) : Decidable (intime zs n i) := by unfold intime; infer_instance
theorem edone_bd (zs : List Int) (n t i : Nat) : 0 ≤ edone zs n t i ∧ edone zs n t i ≤ t := by
  induction t with
  | zero => exact ⟨Int.le_refl _, Int.le_refl _⟩
  | succ t ih =>
    rw [show edone zs n (t + 1) i = if epick zs n t = i ∧ elf zs n (t + 1) i = 0 then (t : Int) + 1 else edone zs n t i from rfl]
    split <;> omega
theorem elate_bad (A : Option Addr) (n c : Nat) (zs : List Int) (W : World) (hs : Sl W W.heap.size A (n * 3) (ints zs)) (h : ¬ edfOk zs n) (hnn : n ≤ 9223372036854775807) :
    Calls Try.prog 20 #[.slice A n c] W fun e w' => e = .returned (.tuple #[.int .i64 0, .int .i64 (edfErr n)]) ∧ Below W.heap.size W w' := by
  have H := Lib.hid h
  have hne := edfErr_ne n
  clear h
  go_enter Try.func20, Try.ntmps20
  go_wp2_with fail
  refine (echeck_bad A n c zs _ H.out hs hnn).mono ?_
  rintro e w1 ⟨rfl, b1⟩
  clear hs
  go_wp2_with fail
  go_ret2
  exact ⟨rfl, b1⟩
set_option maxHeartbeats 6400000 in
/-- The first K jobs are in time; the answer is K, if K is not in time, or none at all. -/
theorem elate_ok (A : Option Addr) (n c : Nat) (zs : List Int) (W : World) (hs : Sl W W.heap.size A (n * 3) (ints zs)) (h : edfOk zs n) (K : Nat) (hK : K ≤ n) (h1 : ∀ i, i < K → intime zs n i) (h2 : K < n → ¬ intime zs n K) (x er : Int) (hx : (if K < n then ((K : Int), (0 : Int)) else (0, 5)) = (x, er)) :
    Calls Try.prog 20 #[.slice A n c] W fun e w' => e = .returned (.tuple #[.int .i64 x, .int .i64 er]) ∧ Below W.heap.size W w' := by
  have H := Lib.hid h
  have HX := Lib.hid hx
  have H1 := Lib.hid h1
  have H2 := Lib.hid h2
  have h12 := h.1
  clear h hx h1 h2
  go_enter Try.func20, Try.ntmps20
  go_wp2_with fail
  refine (echeck_ok A n c zs _ H.out hs).mono ?_
  rintro e w1 ⟨rfl, b1⟩
  have S1 := Lib.hid (hs.on b1)
  have B1 := Lib.hid b1
  clear hs b1
  go_wp2_with fail
  refine (eplay_ok A n c zs _ S1.out H.out).mono ?_
  rintro e w2 ⟨A1, c1, A2, c2, rfl, s1, s2, b2⟩
  have B2 := Lib.hid (B1.out.trans (b2.mono B1.out.size))
  have S2 := Lib.hid (S1.out.on b2)
  have D2 := Lib.hid s2
  clear b2 s1 s2 S1
  obtain ⟨B, hB⟩ : ∃ B, ebusy zs n 200 = B := ⟨_, rfl⟩
  rw [hB]
  clear hB
  go_wp2_with fail
  go_loopw [21] (fun i wr => ∃ k : Nat, k ≤ K ∧ i = .int .i64 k ∧ Below w2.heap.size w2 wr) (fun i _ => K - (intOf i).toNat)
  case atStart => exact ⟨0, Nat.zero_le _, rfl, Below.refl _ _⟩
  case round =>
    obtain ⟨k, hk, rfl, hb⟩ := hrel
    have hz := hb.size
    have HB := Lib.hid hb
    have hk0 : (0 : Int) ≤ k := by omega
    by_cases hkn : k < n
    · have hn1 : (k : Int) < n := by omega
      obtain ⟨ba, oa, rfl, qa, -⟩ := S2.out.int_at (k := k * 3) (by omega)
      obtain ⟨a0, a1, a2⟩ := (S2.out.below hb).three hkn
      obtain ⟨oj, hoj⟩ : ∃ oj, Obj.cells #[.int .i64 (fd zs k 0), .int .i64 (fd zs k 1), .int .i64 (fd zs k 2)] 28 = oj := ⟨_, rfl⟩
      have HA := Lib.hid (hb.alloc hz oj)
      obtain ⟨bd, od, rfl, qd, hd⟩ := (D2.out.below HA.out).int_at hkn
      rw [tab_get _ hkn] at hd
      subst hoj
      have hbd := edone_bd zs n 200 k
      obtain ⟨v, hv⟩ : ∃ v, edone zs n 200 k = v := ⟨_, rfl⟩
      rw [hv] at hd hbd
      have BF := Lib.hid (B2.out.trans (HA.out.mono B2.out.size))
      by_cases hlt : k < K
      · have i1 := H1.out k hlt
        unfold intime at i1
        rw [hv] at i1
        have e1 : (v == 0) = false := by simp; omega
        have e2 : decide (fd zs k 2 < v) = false := decide_eq_false (by omega)
        clear hb i1 hv
        go_wp2_with fail
        go_quiet (fail)
        go_wp2_with fail
        go_roundw
        case rel => exact ⟨k + 1, by omega, by go_num, bel_drewN HA.out _⟩
        case measure => simp [intOf]; omega
      · have hkK : k = K := by omega
        have i1 := H2.out (by omega)
        unfold intime at i1
        rw [← hkK, hv] at i1
        have hxe := HX.out
        rw [if_pos (by omega), ← hkK] at hxe
        injection hxe with hxe1 hxe2
        by_cases v0 : v = 0
        · have e1 : (v == 0) = true := by simp; omega
          clear hb i1 hv v0 hkK hlt
          subst hxe1 hxe2
          go_wp2_with fail
          go_quiet (fail)
          go_wp2_with fail
          go_ret2
          exact ⟨rfl, bel_drewN BF.out _⟩
        · have e1 : (v == 0) = false := by simp; omega
          have e2 : decide (fd zs k 2 < v) = true := decide_eq_true (by omega)
          clear hb i1 hv v0 hkK hlt
          subst hxe1 hxe2
          go_wp2_with fail
          go_quiet (fail)
          go_wp2_with fail
          go_ret2
          exact ⟨rfl, bel_drewN BF.out _⟩
    · have hkK : k = n := by omega
      have hKn : K = n := by omega
      have hxe := HX.out
      rw [if_neg (by omega)] at hxe
      injection hxe with hxe1 hxe2
      have BF := Lib.hid (B2.out.trans (hb.mono B2.out.size))
      have hn1 : ¬ (k : Int) < n := by omega
      clear hb hkK hKn hk
      subst hxe1 hxe2
      go_wp2_with fail
      go_ret2
      exact ⟨rfl, BF.out⟩
end Go.Proofs.Ytigekbidbeilnaa
