/- CatchEver: once there, one stays there. -/
import Derived.Test.YtbadhngjkjoiiaaCatchA
import Derived.Test.YtbadhngjkjoiiaaOpen
set_option linter.unusedVariables false
namespace Go.Proofs.Ytbadhngjkjoiiaa
open Go.RowKit
set_option maxRecDepth 100000 in
set_option maxHeartbeats 1600000 in
theorem catchEver_walk (A : Option Addr) (n c : Nat) (l : List Int) (r g : Int) (W : World) (w0 : InInts W A n c l) (_ : -9223372036854775808 ≤ r ∧ r ≤ 9223372036854775807) (_ : -9223372036854775808 ≤ g ∧ g ≤ 9223372036854775807) :
    Calls Try.prog 3 #[.slice A n c, .int .i64 r, .int .i64 g] W fun e w' => e = .returned (.bool true) ∧ Below W.heap.size W w' := by
  obtain ⟨s1, l1, r1, _⟩ := w0
  go_enter Try.func3, Try.ntmps3
  go_wp2_with fail
  refine (cdone_ok (some ⟨W.heap.size, 0, none⟩) 2 2 [1, 1] 2 1 _ ⟨⟨by decide, by decide⟩, by decide, by decide, by decide, by decide⟩ (by exact Sl.built_ _ (ints [1, 1]) _ _ rfl rfl)).mono ?_
  rintro e w1 ⟨hor, hb1'⟩
  have hb1 : Below W.heap.size W w1 := (below_alloc (Below.refl _ W) (.cells (ints [1, 1]).toArray 3)).trans (hb1'.mono (by simp))
  have s2 := s1.on hb1
  have hlen := s2.int_len
  have he : e = .returned (.tuple #[.int .i64 1, .int .i64 0]) := by
    have z0 : clag [1, 1] 2 1 0 ≠ 0 := by decide
    have z1 : clag [1, 1] 2 1 1 = 0 := by decide
    rcases hor with ⟨t, rfl, f1, f2, f3⟩ | ⟨_, h⟩
    · match t, f1, f2, f3 with
      | 0, _, f2, _ => exact absurd f2 z0
      | 1, _, _, _ => rfl
      | t + 2, _, _, f3 => exact absurd z1 (f3 1 (by omega))
    · exact absurd z1 (h 1 (by omega))
  subst he
  clear hor hb1' s1
  go_wp2_with fail
  by_cases h : catchOk l r g
  · refine (cdone_ok A n c l r g _ h s2).mono ?_
    rintro e w2 ⟨hor, hb2'⟩
    have hb2 : Below W.heap.size W w2 := hb1.trans (hb2'.mono hb1.size)
    have s3 := s2.on hb2'
    have H := Lib.hid h
    have HL := Lib.hid hlen
    have hn : n ≤ 60 := by have := h.1.1; omega
    clear hb1 hb2' s2 h hlen
    rcases hor with ⟨t, rfl, f1, f2, f3⟩ | ⟨rfl, _⟩
    · clear f3
      have F2 := Lib.hid f2
      clear f2
      go_wp2_with fail
      refine (clag_ok A n c l r g _ H.out s3).mono ?_
      rintro e w3 ⟨A3, c3, rfl, hx, hb3', hcap⟩
      have hb3 : Below W.heap.size W w3 := hb2.trans (hb3'.mono hb2.size)
      have s4 := s3.on hb3'
      have t0 : ¬ ((t : Int) < 0) := by omega
      have t1 : ¬ (((n + 1 : Nat) : Int) ≤ t) := by omega
      clear hb2 hb3' s3
      go_wp2_with fail
      go_loopw [13] (fun i wr => ∃ k : Nat, t ≤ k ∧ k < n + 1 ∧ i = .int .i64 ((k : Int) + 1) ∧ Hid (clag l r g k = 0) ∧ ∃ q, wr = w3.drewN q) (fun i _ => n + 2 - (intOf i).toNat)
      case atStart => exact ⟨t, Nat.le_refl _, f1, by go_num, F2, 0, rfl⟩
      case round =>
        obtain ⟨k, hk1, hk2, rfl, hz, q, rfl⟩ := hrel
        by_cases hlt : k < n
        · obtain ⟨b1, o1, rfl, q1, hc1⟩ := s4.int_at hlt
          obtain ⟨b2, o2, rfl, q2, hc2⟩ := hx.int_at (show k + 1 < n + 1 by omega)
          rw [tab_get _ (by omega)] at hc2
          have hkl : k < l.length := by rw [HL.out]; exact hlt
          have hm1 : (k : Int) < n := by omega
          have hm2 : (k : Int) + 1 < (n + 1 : Nat) := by omega
          have hm0 : (0 : Int) ≤ k := by omega
          have hm3 : (0 : Int) ≤ (k : Int) + 1 := by omega
          have g1 : ((k : Int) + 1).toNat = k + 1 := by omega
          clear s4 hx
          by_cases hr : r < gi l k
          · go_wp2_with fail
            go_ret
            exact ⟨rfl, bel_drewN hb3 _⟩
          · have hS : clag l r g (k + 1) = 0 := by
              rw [clag_succ, hz.out]
              have := mx_le 0 (0 + gi l k - r)
              omega
            have HS := Lib.hid hS
            have hne : (clag l r g (k + 1) != 0) = false := by rw [hS]; rfl
            clear hS
            go_wp2_with fail
            go_roundw
            case rel => exact ⟨k + 1, by omega, by omega, by go_num, HS, _, rfl⟩
            case measure => simp [intOf]; omega
        · have hkn : k = n := by omega
          subst hkn
          obtain ⟨b2, o2, rfl, q2, hc2⟩ := hx.int_at f1
          rw [tab_get _ f1, F2.out] at hc2
          have hm2 : ¬ ((k : Int) + 1 < (k + 1 : Nat)) := by omega
          have hm3 : (t : Int) < (k + 1 : Nat) := by omega
          have hm0 : (0 : Int) ≤ t := by omega
          clear s4 hx
          go_wp2_with fail
          go_ret
          exact ⟨rfl, bel_drewN hb3 _⟩
    · go_wp2_with fail
      refine (clag_ok A n c l r g _ H.out s3).mono ?_
      rintro e w3 ⟨A3, c3, rfl, hx, hb3', hcap⟩
      have hb3 : Below W.heap.size W w3 := hb2.trans (hb3'.mono hb2.size)
      clear hb2 hb3' s3 hx
      go_wp2_with fail
      go_ret
      exact ⟨rfl, hb3⟩
  · refine (cdone_bad A n c l r g _ _ h s2 (by omega)).mono ?_
    rintro e w3 ⟨rfl, rfl⟩
    have hne := catchErr_ne l
    go_wp2_with fail
    refine (clag_bad A n c l r g _ _ h s2 (by omega)).mono ?_
    rintro e w3 ⟨rfl, rfl⟩
    clear s2 h hlen
    go_wp2_with fail
    go_ret
    exact ⟨rfl, hb1⟩
end Go.Proofs.Ytbadhngjkjoiiaa
