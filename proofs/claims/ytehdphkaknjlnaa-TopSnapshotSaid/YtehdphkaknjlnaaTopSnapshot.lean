/- TopSnapshot: a snapshot sent in pieces with crashes is complete by the computed time, whatever the order of pieces. -/
import Derived.Test.YtehdphkaknjlnaaTopSnapO
import Derived.Test.YtehdphkaknjlnaaTopSnapW
import Derived.Test.YtehdphkaknjlnaaTopSnapN
set_option linter.unusedVariables false
namespace Go.Proofs.Ytehdphkaknjlnaa
open Go.RowKit
set_option maxRecDepth 100000 in
set_option maxHeartbeats 12800000 in
theorem topSnapshot_walk (s u r : Int) (A : Option Addr) (n c : Nat) (bs : List Bool) (O : Option Addr) (m d : Nat) (ord : List Int) (W : World) (w0 : -9223372036854775808 ≤ s ∧ s ≤ 9223372036854775807) (w1 : -9223372036854775808 ≤ u ∧ u ≤ 9223372036854775807) (w2 : -9223372036854775808 ≤ r ∧ r ≤ 9223372036854775807) (w3 : InBools W A n c bs) (w4 : InInts W O m d ord) :
    Calls Try.prog 13 #[.int .i64 s, .int .i64 u, .int .i64 r, .slice A n c, .slice O m d] W fun e w' => e = .returned (.bool true) ∧ Below W.heap.size W w' := by
  by_cases hA : pieceOk s u ∧ resumeOk s u r ∧ n ≤ 200
  · obtain ⟨hok, hr⟩ := hA
    rcases Nat.eq_zero_or_pos n with hn | hn
    · exact snap_none s u r A n c bs O m d ord W w3 w4 hok hr hn
    · by_cases hls : rgot s u r bs n = s
      · exact snap_all s u r A n c bs O m d ord W w3 w4 hok hr hn hls
      · exact snap_some s u r A n c bs O m d ord W w3 w4 hok hr hn hls
  obtain ⟨sb, lb, rb⟩ := w3
  obtain ⟨so, lo, ro, zo⟩ := w4
  have SB := Lib.hid sb
  have SO := Lib.hid so
  have HLB := Lib.hid sb.bool_len
  have HLO := Lib.hid so.int_len
  have ZO := Lib.hid zo
  clear sb so zo w0 w1 w2
  go_enter Try.func13, Try.ntmps13
  go_wp2_with fail
  by_cases hok : pieceOk s u
  case neg =>
    have HO := Lib.hid hok
    have hne := lookE_ne s u
    have hee : (lookE s u == lookE s u) = true := by simp
    clear hok
    refine (psizes_e s u _ HO.out).mono ?_
    rintro e w3 ⟨rfl, rfl⟩
    go_wp2_with fail
    refine (new_e s u _ HO.out).mono ?_
    rintro e w4 ⟨rfl, bb4⟩
    have B4 := Lib.hid (bb4.alloc bb4.size (.cells #[.int .i64 0, .int .i64 0, .slice none 0 0] 59))
    clear bb4
    go_wp2_with fail
    refine (begun_any _ true rfl).mono ?_
    rintro e w5 ⟨rfl, b5⟩
    have B5 := Lib.hid (B4.out.trans (b5.mono B4.out.size))
    clear b5
    go_wp2_with fail
    refine (begun_any _ true rfl).mono ?_
    rintro e w6 ⟨rfl, b6⟩
    have B6 := Lib.hid (B5.out.trans (b6.mono B5.out.size))
    clear b6
    go_wp2_with fail
    go_ret
    exact ⟨rfl, B6.out⟩
  obtain ⟨N, hN⟩ : ∃ N : Nat, ceil s u = N := ⟨(ceil s u).toNat, by have := ceil_nonneg (d := s) hok.1.2.2.1 hok.1.1; omega⟩
  have HP : Hid (stageOk s u N) := ⟨hok, hN.symm⟩
  have HO := Lib.hid hok
  have HN := Lib.hid hN
  have n200 := stage_len HP.out
  clear hok hN
  refine (psizes_ok s u N _ HO.out HN.out).mono ?_
  rintro e w4 ⟨A4, c4, rfl, s4, bb4, l4⟩
  have B4 := Lib.hid bb4
  clear bb4 s4
  go_wp2_with fail
  refine (new_ok s u N _ HO.out HN.out).mono ?_
  rintro e w5 ⟨g5, rfl, s5, bb5, hg5⟩
  have B5 := Lib.hid (B4.out.trans (bb5.mono B4.out.size))
  have hz5 : Hid (W.heap.size ≤ w5.heap.size) := B5.out.size
  have X5 := Lib.hid (VBox.made w5 (.int .i64 s) (.int .i64 u) (.slice (some ⟨g5, 0, none⟩) N N) 59)
  have S5 := Lib.hid (slMore s5 (.cells #[.int .i64 s, .int .i64 u, .slice (some ⟨g5, 0, none⟩) N N] 59))
  have B5a := Lib.hid (B5.out.alloc B5.out.size (.cells #[.int .i64 s, .int .i64 u, .slice (some ⟨g5, 0, none⟩) N N] 59))
  have hsz : Hid (w5.heap.size < (w5.alloc (.cells #[.int .i64 s, .int .i64 u, .slice (some ⟨g5, 0, none⟩) N N] 59)).heap.size) := by show _ < _; simp
  have hg5b : Hid (0 < N → g5 < w5.heap.size) := Lib.hid fun h => by
    obtain ⟨b, off, hA, hb, -⟩ := s5.bool_at (k := 0) h
    injection hA with hA
    injection hA with hA
    omega
  clear s5 bb5
  go_wp2_with fail
  obtain ⟨w6, hw6⟩ : ∃ w6, w5.alloc (.cells #[.int .i64 s, .int .i64 u, .slice (some ⟨g5, 0, none⟩) N N] 59) = w6 := ⟨_, rfl⟩
  rw [hw6] at X5 S5 B5a hsz ⊢
  clear hw6
  refine (begun_any _ true rfl).mono ?_
  rintro e w7 ⟨rfl, b7⟩
  have X7 := Lib.hid (X5.out.on b7 hsz.out)
  have S7 := Lib.hid (S5.out.on b7)
  have B7 := Lib.hid (B5a.out.trans (b7.mono B5a.out.size))
  have hz7 : Hid (w5.heap.size < w7.heap.size) := Nat.lt_of_lt_of_le hsz.out b7.size
  clear b7
  go_wp2_with fail
  by_cases hr : resumeOk s u r ∧ n ≤ 200
  case neg =>
    have key : Hid (∃ er : Int, (er != 0) = true ∧ Calls Try.prog 40 #[.int .i64 s, .int .i64 u, .int .i64 r, .slice A n c] w7 fun e w' => e = .returned (.tuple #[.slice none 0 0, .int .i64 er]) ∧ w7 = w') := by
      show ∃ er, _
      by_cases h1 : resumeOk s u r
      · exact ⟨2, rfl, run_large s u r A n c _ h1 (by
          rcases Nat.lt_or_ge 200 n with h2 | h2
          · exact h2
          · exact absurd ⟨h1, h2⟩ hr)⟩
      · exact ⟨1, rfl, run_bad s u r A n c _ h1⟩
    clear hr
    obtain ⟨er, hne, hcall⟩ := key.out
    have HCL := Lib.hid hcall
    clear hcall
    refine HCL.out.mono ?_
    rintro e w8 ⟨rfl, rfl⟩
    go_wp2_with fail
    go_ret
    exact ⟨rfl, B7.out⟩
  exact absurd ⟨HO.out, hr⟩ hA
end Go.Proofs.Ytehdphkaknjlnaa
