/- TurnsGrow: later no less is sent, and in the end all. -/
import Derived.Test.YtpifknmoimlpoaaTurnF
import Derived.Test.YtpifknmoimlpoaaMaxMin
set_option linter.unusedVariables false
namespace Go.Proofs.Ytpifknmoimlpoaa
open Go.RowKit
set_option maxRecDepth 100000 in
set_option maxHeartbeats 6400000 in
theorem turnsGrow_walk (A : Option Addr) (n c : Nat) (q : Nat → Int) (hd : Nat → Option Addr × Nat × Nat) (ls : Nat → List Int) (a b : Int) (W : World) (w0 : InFl W A n c q hd ls) (w1 : -9223372036854775808 ≤ a ∧ a ≤ 9223372036854775807) (w2 : -9223372036854775808 ≤ b ∧ b ≤ 9223372036854775807) :
    Calls Try.prog 4 #[.slice A n c, .int .i64 a, .int .i64 b] W fun e w' => e = .returned (.bool true) ∧ Below W.heap.size W w' := by
  obtain ⟨sl, lc, rc, nums, inn⟩ := w0
  have FS := Lib.hid (FlS.mk sl fun i hi => (inn i hi).1)
  have hdb : ∀ i, i < n → (hd i).2.1 ≤ 9223372036854775807 := fun i hi => Nat.le_trans (inn i hi).2.1 (inn i hi).2.2.1
  have DB := Lib.hid hdb
  have hnn : n ≤ 9223372036854775807 := by omega
  clear sl lc rc nums inn hdb
  clear w1 w2
  go_enter Try.func4, Try.ntmps4
  go_wp2_with fail
  refine (flow_any 1 _ 1 1 _).mono ?_
  rintro e wa0 ⟨rfl, rfl⟩
  go_wp2_with fail
  refine (after_i _ 1 _ (fun _ => 1) (fun _ => (some ⟨W.heap.size, 0, none⟩, 1, 1)) (fun _ => [1000]) 1000 _ (FlS.one 1 [1000] _ W.heap.size (by simp <;> omega) (slMore (Sl.built_ W (ints [1000]) 3 _ rfl rfl) _) 1 _ (by simp)) (by decide) (by omega) 1000 rfl).mono ?_
  rintro e u0 ⟨D0, d0, rfl, s0, bb0, l0⟩
  rw [show (tab 1 fun i => tpre ((fun _ => [1000]) i) (tst ((fun _ => 1) i) ((fun _ => [1000]) i) 1000).1) = [1000] from tst_lit1] at s0
  have U0 := Lib.hid (belLit2 (below_alloc (Below.refl W.heap.size W) _) bb0)
  have S0 := Lib.hid s0
  clear bb0 s0
  go_wp2_with fail
  refine (equal_t D0 1 d0 [1000] _ 1 _ [1000] _ (slMore S0.out _) (Sl.built_ _ (ints [1000]) 3 _ rfl rfl) (by omega) (by omega) true (by decide)).mono ?_
  rintro e v0 ⟨rfl, bb0⟩
  have V0 := Lib.hid (belLit1 U0.out bb0)
  clear bb0 S0 U0
  go_wp2_with fail
  have p0 := within_lo a 1001 (by omega)
  have p1 := within_hi a 1001 (by omega)
  have p2 := within_lo b 1001 (by omega)
  have p3 := within_hi b 1001 (by omega)
  obtain ⟨a1, ha'⟩ : ∃ x, within a 1001 = x := ⟨_, rfl⟩
  obtain ⟨b1, hb'⟩ : ∃ x, within b 1001 = x := ⟨_, rfl⟩
  rw [ha'] at p0 p1
  rw [hb'] at p2 p3
  have HA := Lib.hid ha'
  have HB := Lib.hid hb'
  clear ha' hb'
  refine (within_t a 1001 _ (by omega) (by omega) a1 HA.out).mono ?_
  rintro e _ ⟨rfl, rfl⟩
  go_wp2_with fail
  refine (within_t b 1001 _ (by omega) (by omega) b1 HB.out).mono ?_
  rintro e _ ⟨rfl, rfl⟩
  obtain ⟨m1, hm1⟩ : ∃ m1 : Nat, (if b1 < a1 then b1 else a1) = m1 := ⟨(if b1 < a1 then b1 else a1).toNat, by split <;> omega⟩
  obtain ⟨m2, hm2⟩ : ∃ m2 : Nat, (if a1 < b1 then b1 else a1) = m2 := ⟨(if a1 < b1 then b1 else a1).toNat, by split <;> omega⟩
  have le12 : m1 ≤ m2 ∧ m2 ≤ 1000 := by
    have h1 := hm1
    have h2 := hm2
    split at h1 <;> split at h2 <;> omega
  clear p0 p1 p2 p3
  have FS2 := Lib.hid ((FS.out.below V0.out).more V0.out.size)
  obtain ⟨ck, hck⟩ : ∃ ck, tchk n q ls = ck := ⟨_, rfl⟩
  have HCK := Lib.hid hck
  clear hck
  go_wp2_with fail
  by_cases h0 : ck = 0
  case neg =>
    have hne : (ck != 0) = true := by simpa using h0
    have H0 := Lib.hid h0
    clear h0
    refine (turns_bad A n c q hd ls m1 _ FS2.out hnn DB.out ck HCK.out H0.out).mono ?_
    rintro e w5 ⟨rfl, bb5⟩
    have B5 := Lib.hid (V0.out.trans (bb5.mono V0.out.size))
    have FS5 := Lib.hid (FS2.out.on bb5)
    clear bb5
    go_wp2_with fail
    refine (turns_bad A n c q hd ls m2 _ FS5.out hnn DB.out ck HCK.out H0.out).mono ?_
    rintro e w6 ⟨rfl, bb6⟩
    have B6 := Lib.hid (B5.out.trans (bb6.mono B5.out.size))
    clear bb6
    have hee : (ck == ck) = true := by simp
    go_wp2_with fail
    go_ret
    exact ⟨rfl, B6.out⟩
  subst h0
  obtain ⟨n8, qok⟩ := tchk_ok HCK.out
  have QO := Lib.hid qok
  clear qok
  refine (after_i A n c q hd ls m1 _ FS2.out HCK.out (by omega) m1 rfl).mono ?_
  rintro e w5 ⟨X, cx, rfl, sx, bb5, lx⟩
  have B5 := Lib.hid (V0.out.trans (bb5.mono V0.out.size))
  have FS5 := Lib.hid (FS2.out.on bb5)
  have SX := Lib.hid sx
  clear bb5 sx
  go_wp2_with fail
  refine (after_i A n c q hd ls m2 _ FS5.out HCK.out (by omega) m2 rfl).mono ?_
  rintro e w6 ⟨Y, cy, rfl, sy, bb6, ly⟩
  have B6 := Lib.hid (B5.out.trans (bb6.mono B5.out.size))
  have SX6 := Lib.hid (SX.out.on bb6)
  have SY := Lib.hid sy
  clear bb6 sy SX
  go_wp2_with fail
  go_loopw [79] (fun vi wr => ∃ k : Nat, k ≤ n ∧ vi = .int .i64 (k : Int) ∧ ∃ q, wr = w6.drewN q) (fun vi _ => n - (intOf vi).toNat)
  case atStart => exact ⟨0, Nat.zero_le _, rfl, 0, rfl⟩
  case round =>
    obtain ⟨k, hk, rfl, qq, rfl⟩ := hrel
    have hk0 : (0 : Int) ≤ k := by omega
    by_cases hlt : k < n
    · have hn1 : (k : Int) < n := by omega
      obtain ⟨bx, ox, rfl, hbx, cx1⟩ := SX6.out.int_at hlt
      obtain ⟨by_, oy, rfl, hby, cy1⟩ := SY.out.int_at hlt
      rw [tab_get _ hlt] at cx1 cy1
      have mon := tpre_mono (QO.out k hlt) (tst_mono (QO.out k hlt) le12.1) (tst_ok (QO.out k hlt) m2).le
      obtain ⟨x, hx⟩ : ∃ x, tpre (ls k) (tst (q k) (ls k) m1).1 = x := ⟨_, rfl⟩
      obtain ⟨y, hy⟩ : ∃ x, tpre (ls k) (tst (q k) (ls k) m2).1 = x := ⟨_, rfl⟩
      rw [hx] at cx1 mon
      rw [hy] at cy1 mon
      have d1 : decide (y < x) = false := decide_eq_false (by omega)
      clear hx hy mon
      go_wp2_with fail
      go_quiet (fail)
      go_wp2_with fail
      go_roundw
      case rel => exact ⟨k + 1, by omega, by go_num, _, rfl⟩
      case measure => simp [intOf]; omega
    · have hkn : k = n := by omega
      subst hkn
      have hn1 : ¬ (k : Int) < k := by omega
      go_wp2_with fail
      go_ret
      exact ⟨rfl, bel_drewN B6.out _⟩
end Go.Proofs.Ytpifknmoimlpoaa
