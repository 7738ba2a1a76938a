/- window.Done returns the time at which the last piece is acknowledged. -/
import Derived.Test.YtopldjklmjkcmaaWinB
set_option linter.unusedVariables false
namespace Go.Proofs.Ytopldjklmjkcmaa
open Go.RowKit
theorem done_bad (n w trip : Int) (W : World) (h : ¬ winOk n w trip) :
    Calls Try.prog 15 #[.int .i64 n, .int .i64 w, .int .i64 trip] W fun e w' => e = .returned (.tuple #[.int .i64 0, .int .i64 1]) ∧ W = w' := by
  go_enter Try.func15, Try.ntmps15
  go_wp2_with (go_at_call 17; refine (sent_bad _ _ _ _ h).mono ?_; rintro e w' ⟨rfl, rfl⟩)
  go_ret2
  exact ⟨rfl, rfl⟩
def doneAt (n w trip : Int) : Int := if n = 0 then 0 else wtime w.toNat trip.toNat (n.toNat - 1) + trip
theorem doneAt_pos {n w trip : Int} (h : n ≠ 0) : doneAt n w trip = wtime w.toNat trip.toNat (n.toNat - 1) + trip := by unfold doneAt; rw [if_neg h]
set_option maxHeartbeats 400000 in
theorem done_ok (n w trip : Int) (W : World) (h : winOk n w trip) :
    Calls Try.prog 15 #[.int .i64 n, .int .i64 w, .int .i64 trip] W fun e w' => e = .returned (.tuple #[.int .i64 (doneAt n w trip), .int .i64 0]) ∧ Below W.heap.size W w' := by
  have h' := h
  obtain ⟨h1, h2, h3, h4, h5, h6⟩ := h'
  by_cases h0 : n = 0
  · subst h0
    go_enter Try.func15, Try.ntmps15
    go_wp2_with (go_at_call 17; refine (sent_ok _ _ _ _ h).mono ?_; rintro e w' ⟨A, c, rfl, hs, hb, _⟩)
    go_ret2
    exact ⟨rfl, hb⟩
  · obtain ⟨n, rfl⟩ := Int.eq_ofNat_of_zero_le h1
    have hz : ((n : Int) == 0) = false := by simpa using h0
    have hbd := wtime_bd w.toNat trip.toNat (n - 1) (by omega) (by omega) (by omega) (by omega)
    have hbd0 : (0 : Int) ≤ wtime w.toNat trip.toNat (n - 1) := by omega
    have hbd' : (wtime w.toNat trip.toNat (n - 1) : Int) ≤ 40000 := by omega
    have hH := Lib.hid h
    clear h
    go_enter Try.func15, Try.ntmps15
    go_wp2_with (go_at_call 17; refine (sent_ok _ _ _ _ hH.out).mono ?_; rintro e w' ⟨A, c, rfl, hs, hb, _⟩; obtain ⟨b, off, rfl, hlt, hc⟩ := hs.int_at (k := n - 1) (by simp; omega); unfold sentList at hc; rw [wlist_get _ _ _ _ (by simp; omega)] at hc; clear hs)
    go_ret2
    exact ⟨ret_int2 (by rw [doneAt_pos h0]; simp), hb⟩
end Go.Proofs.Ytopldjklmjkcmaa
