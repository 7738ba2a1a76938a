/- LineSums: arrivals equal departures plus what is left, and the link is work-conserving with bounded rate. -/
import Derived.Test.YtihhldphpoddhaaLineTwo
set_option linter.unusedVariables false
namespace Go.Proofs.Ytihhldphpoddhaa
open Go.RowKit
set_option maxRecDepth 100000 in
set_option maxHeartbeats 3200000 in
theorem lineSums_walk (A : Option Addr) (n c : Nat) (l : List Int) (r : Int) (W : World) (w0 : InInts W A n c l) (_ : -9223372036854775808 ≤ r ∧ r ≤ 9223372036854775807) :
    Calls Try.prog 4 #[.slice A n c, .int .i64 r] W fun e w' => e = .returned (.bool true) ∧ Below W.heap.size W w' := by
  obtain ⟨s1, l1, r1, _⟩ := w0
  go_enter Try.func4, Try.ntmps4
  go_wp2_with fail
  refine (lrun_ex [1, 5] 3 [1, 3] [0, 2] 2 rfl ⟨⟨by decide, by decide⟩, by decide, by decide⟩ (by decide) (by decide) _ _ _ (by exact Sl.built_ _ (ints [1, 5]) _ _ rfl rfl)).mono ?_
  rintro e w1 ⟨A1, c1, A1', c1', rfl, hs1, hs1', hb1'⟩
  have hb1 : Below W.heap.size W w1 := (below_alloc (Below.refl _ W) (.cells (ints [1, 5]).toArray 3)).trans (hb1'.mono (by simp))
  clear hb1'
  go_wp2_with fail
  refine (equal_any _ _ _ _ _ _ _ [1, 3] _ _ _ (hs1.alloc (Nat.le_refl _) _) (Sl.built w1 (ints [1, 3]) _ rfl) (by decide)).mono ?_
  rintro e w2 ⟨rfl, q, rfl⟩
  have hb2 := bel_drewN (below_alloc hb1 (.cells (ints [1, 3]).toArray 3)) q
  have hs2' : Sl ((w1.alloc (.cells (ints [1, 3]).toArray 3)).drewN q) ((w1.alloc (.cells (ints [1, 3]).toArray 3)).drewN q).heap.size A1' 2 (ints [0, 2]) := ((hs1'.alloc (Nat.le_refl _) (.cells (ints [1, 3]).toArray 3)).more (by simp)).drewN q
  obtain ⟨w2, hw2⟩ : ∃ w2, w2 = (w1.alloc (.cells (ints [1, 3]).toArray 3)).drewN q := ⟨_, rfl⟩
  have hz2 : w2.heap.size = w1.heap.size + 1 := by rw [hw2]; show (w1.alloc _).heap.size = _; simp
  rw [← hw2] at hb2 hs2'
  clear hs1 hs1' hb1
  go_wp2_with fail
  rw [← hw2]
  refine (equal_any _ _ _ _ _ _ _ [0, 2] _ _ _ (hs2'.alloc (Nat.le_refl _) _) (Sl.built_ w2 (ints [0, 2]) _ _ hz2.symm rfl) (by decide)).mono ?_
  rintro e w3 ⟨rfl, q', rfl⟩
  have hb3 := bel_drewN (below_alloc hb2 (.cells (ints [0, 2]).toArray 3)) q'
  have s3 := s1.on hb3
  have hlen := s3.int_len
  clear hb2 hs2' hw2 hz2 s1
  go_wp2_with fail
  by_cases h : lineOk l r
  · refine (lrun_ok A n c l r _ h s3).mono ?_
    rintro e w4 ⟨A4, c4, A5, c5, rfl, hx, hy, hb4', hcap, _⟩
    have hb4 : Below W.heap.size W w4 := hb3.trans (hb4'.mono hb3.size)
    have s4 := s3.on hb4'
    have H := Lib.hid h
    have HL := Lib.hid hlen
    have hn : n ≤ 60 := by have := h.1.1; omega
    have hr1 := h.2.1
    have hr2 := h.2.2
    have hnn : ((n : Int) != n) = false := by simp
    clear hb3 hb4' s3 hlen h
    go_wp2_with fail
    go_loopw [65, 11, 12, 13] (fun i was _ _ wr => ∃ k : Nat, k ≤ n ∧ i = .int .i64 k ∧ was = .int .i64 (lbuf l r k) ∧ ∃ q, wr = w4.drewN q) (fun i _ _ _ _ => n - (intOf i).toNat)
    case atStart => exact ⟨0, Nat.zero_le _, rfl, rfl, 0, rfl⟩
    case round =>
      obtain ⟨k, hk, rfl, rfl, q, rfl⟩ := hrel
      by_cases hlt : k < n
      · obtain ⟨b, off, rfl, q1, hc⟩ := s4.int_at hlt
        obtain ⟨b2, off2, rfl, q2, hc2⟩ := hx.int_at hlt
        obtain ⟨b3, off3, rfl, q3, hc3⟩ := hy.int_at hlt
        rw [tab_get _ hlt] at hc2 hc3
        have hkl : k < l.length := by rw [HL.out]; exact hlt
        have hab := trace_bd H.out.1 hkl
        have hbb := lbuf_bd H.out k (by omega)
        have hbb1 := lbuf_bd H.out (k + 1) (by omega)
        have hdb := ldep_bd H.out k hkl
        have hS := lbuf_succ l r k
        have hn1 : (k : Int) < n := by omega
        have hk0 : (0 : Int) ≤ k := by omega
        have f1 : IntKind.i64.wrap (lbuf l r k + gi l k) = lbuf l r k + gi l k := IntWalk.i64_in _ ⟨by omega, by omega⟩
        have f2 : IntKind.i64.wrap (ldep l r k + lbuf l r (k + 1)) = lbuf l r k + gi l k := by rw [IntWalk.i64_in _ ⟨by omega, by omega⟩]; omega
        have f3 : wrap64 (ldep l r k + lbuf l r (k + 1)) = lbuf l r k + gi l k := by rw [IntWalk.wrap64_in _ ⟨by omega, by omega⟩]; omega
        have f4 : ldep l r k + lbuf l r (k + 1) = lbuf l r k + gi l k := by omega
        have t1 : decide (r < ldep l r k) = false := by simp; omega
        have t2 : decide (lbuf l r (k + 1) < 0) = false := by simp; omega
        have t3 : decide (ldep l r k < 0) = false := by simp; omega
        have hmn := mn_le (lbuf l r k + gi l k) r
        have hfull : 0 < lbuf l r (k + 1) → ldep l r k = r := by
          intro hp
          have e := ldep_def l r k
          omega
        by_cases hp : 0 < lbuf l r (k + 1)
        · have hfe := hfull hp
          have t4 : decide (0 < lbuf l r (k + 1)) = true := by simp; omega
          have t5 : (ldep l r k != r) = false := by simp [hfe]
          clear s4 hx hy hS hfull hmn hfe hp
          go_wp2_with fail
          go_quiet (fail)
          go_wp2_with fail
          go_roundw
          case rel => exact ⟨k + 1, by omega, by go_num, rfl, _, rfl⟩
          case measure => simp [intOf]; omega
        · have t4 : decide (0 < lbuf l r (k + 1)) = false := by simp; omega
          clear s4 hx hy hS hfull hmn hp
          go_wp2_with fail
          go_quiet (fail)
          go_wp2_with fail
          go_roundw
          case rel => exact ⟨k + 1, by omega, by go_num, rfl, _, rfl⟩
          case measure => simp [intOf]; omega
      · have hkn : k = n := by omega
        subst hkn
        clear s4 hx hy
        go_wp2_with fail
        go_ret
        exact ⟨rfl, bel_drewN hb4 _⟩
  · refine (lrun_bad A n c l r _ _ h s3 (by omega)).mono ?_
    rintro e w4 ⟨rfl, rfl⟩
    have hne := lineErr_ne l r
    clear s3 h hlen
    go_wp2_with fail
    go_ret
    exact ⟨rfl, hb3⟩
end Go.Proofs.Ytihhldphpoddhaa
