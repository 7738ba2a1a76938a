/- piece.many, piece.one, piece.look and piece.Sizes. -/
import Derived.Test.YtehdphkaknjlnaaElems
import Derived.Test.YtehdphkaknjlnaaShareA
set_option linter.unusedVariables false
namespace Go.Proofs.Ytehdphkaknjlnaa
open Go.RowKit
def pieceIn (s u : Int) : Prop := 0 ≤ s ∧ s ≤ 1000000 ∧ 1 ≤ u ∧ u ≤ 1000000
def pieceOk (s u : Int) : Prop := pieceIn s u ∧ ceil s u ≤ 200
/-- The size of piece i. -/
def psize (s u : Int) (i : Nat) : Int := mn u (s - i * u)
theorem piece_mid {s u : Int} (h : pieceOk s u) {i : Nat} (hi : (i : Int) < ceil s u) : (i : Int) * u < s := by
  have a := ceil_hi (d := s) h.1.2.2.1
  have b : (i : Int) * u ≤ (ceil s u - 1) * u := Int.mul_le_mul_of_nonneg_right (by omega) (by have := h.1.2.2.1; omega)
  omega
theorem many_in (s u : Int) (W : World) (h : pieceIn s u) :
    Calls Try.prog 53 #[.int .i64 s, .int .i64 u] W fun e w' => e = .returned (.int .i64 (ceil s u)) ∧ W = w' := by
  obtain ⟨h1, h2, h3, h4⟩ := h
  have hcl := ceil_le (d := s) h3 h1
  have hcl0 := ceil_nonneg (d := s) h3 h1
  have e1 : wrap64 ((s + u - 1) / u) = ceil s u := by
    rw [show (s + u - 1) / u = ceil s u from rfl]
    exact IntWalk.wrap64_in _ ⟨by omega, by omega⟩
  have hr0 : (u == 0) = false := by simp; omega
  go_enter Try.func53, Try.ntmps53
  go_wp2_with fail
  go_ret
  exact ⟨rfl, rfl⟩
theorem one_in (s u : Int) (i : Nat) (W : World) (h : pieceOk s u) (hi : (i : Int) < ceil s u) :
    Calls Try.prog 51 #[.int .i64 s, .int .i64 u, .int .i64 i] W fun e w' => e = .returned (.int .i64 (psize s u i)) ∧ W = w' := by
  have hm := piece_mid h hi
  have hp : 0 ≤ (i : Int) * u := Int.mul_nonneg (by omega) (by have := h.1.2.2.1; omega)
  obtain ⟨⟨h1, h2, h3, h4⟩, h5⟩ := h
  have f1 : IntKind.i64.wrap ((i : Int) * u) = (i : Int) * u := IntWalk.i64_in _ ⟨by omega, by omega⟩
  have f2 : IntKind.i64.wrap (s - (i : Int) * u) = s - (i : Int) * u := IntWalk.i64_in _ ⟨by omega, by omega⟩
  have f3 : (if s - (i : Int) * u < u then s - (i : Int) * u else u) = psize s u i := rfl
  go_enter Try.func51, Try.ntmps51
  go_wp2_with fail
  go_ret
  exact ⟨rfl, rfl⟩
theorem plook_ok (s u : Int) (W : World) (h : pieceOk s u) :
    Calls Try.prog 52 #[.int .i64 s, .int .i64 u] W fun e w' => e = .returned (.int .i64 0) ∧ W = w' := by
  have H := Lib.hid h.1
  have g5 : ¬ (200 < ceil s u) := by have := h.2; omega
  obtain ⟨h1, h2, h3, h4⟩ := h.1
  have g1 : ¬ (s < 0) := by omega
  have g2 : ¬ (1000000 < s) := by omega
  have g3 : ¬ (u < 1) := by omega
  have g4 : ¬ (1000000 < u) := by omega
  clear h
  go_enter Try.func52, Try.ntmps52
  go_wp2_with fail
  refine (many_in s u _ H.out).mono ?_
  rintro e w' ⟨rfl, rfl⟩
  go_wp2_with fail
  go_ret
  exact ⟨rfl, rfl⟩
theorem plook_bad (s u : Int) (W : World) (h : ¬ pieceOk s u) :
    Calls Try.prog 52 #[.int .i64 s, .int .i64 u] W fun e w' => ∃ k : Int, k ≠ 0 ∧ e = .returned (.int .i64 k) ∧ W = w' := by
  by_cases hin : pieceIn s u
  · have H := Lib.hid hin
    have g5 : 200 < ceil s u := by
      rcases Int.lt_or_le 200 (ceil s u) with h' | h'
      · exact h'
      · exact absurd ⟨hin, h'⟩ h
    obtain ⟨h1, h2, h3, h4⟩ := hin
    have g1 : ¬ (s < 0) := by omega
    have g2 : ¬ (1000000 < s) := by omega
    have g3 : ¬ (u < 1) := by omega
    have g4 : ¬ (1000000 < u) := by omega
    clear h
    go_enter Try.func52, Try.ntmps52
    go_wp2_with fail
    refine (many_in s u _ H.out).mono ?_
    rintro e w' ⟨rfl, rfl⟩
    go_wp2_with fail
    go_ret
    exact ⟨2, by decide, rfl, rfl⟩
  · have hr : s < 0 ∨ (¬ s < 0 ∧ 1000000 < s) ∨ (¬ s < 0 ∧ ¬ 1000000 < s ∧ u < 1) ∨ (¬ s < 0 ∧ ¬ 1000000 < s ∧ ¬ u < 1 ∧ 1000000 < u) := by
      unfold pieceIn at hin
      omega
    clear h hin
    rcases hr with h1 | ⟨h1, h2⟩ | ⟨h1, h2, h3⟩ | ⟨h1, h2, h3, h4⟩
    all_goals
      go_enter Try.func52, Try.ntmps52
      go_wp2_with fail
      go_ret
      exact ⟨1, by decide, rfl, rfl⟩
theorem psizes_bad (s u : Int) (W : World) (h : ¬ pieceOk s u) :
    Calls Try.prog 37 #[.int .i64 s, .int .i64 u] W fun e w' => ∃ k : Int, k ≠ 0 ∧ e = .returned (.tuple #[.slice none 0 0, .int .i64 k]) ∧ W = w' := by
  have H := Lib.hid h
  clear h
  go_enter Try.func37, Try.ntmps37
  go_wp2_with fail
  refine (plook_bad s u _ H.out).mono ?_
  rintro e w' ⟨k, hk, rfl, rfl⟩
  have hne : (k != 0) = true := by simpa using hk
  have hk' := Lib.hid hk
  clear hk
  go_wp2_with fail
  go_ret2
  exact ⟨k, hk'.out, rfl, rfl⟩
set_option maxHeartbeats 1600000 in
theorem psizes_ok (s u : Int) (N : Nat) (W : World) (h : pieceOk s u) (hN : ceil s u = N) :
    Calls Try.prog 37 #[.int .i64 s, .int .i64 u] W fun e w' => ∃ A1 c1, e = .returned (.tuple #[.slice A1 N c1, .int .i64 0]) ∧
      Sl w' w'.heap.size A1 N (ints (tab N (psize s u))) ∧ Below W.heap.size W w' ∧ N ≤ c1 := by
  have H := Lib.hid h
  have HN := Lib.hid hN
  have hn : N ≤ 200 := by have := h.2; omega
  clear h hN
  go_enter Try.func37, Try.ntmps37
  go_wp2_with fail
  refine (plook_ok s u _ H.out).mono ?_
  rintro e w' ⟨rfl, rfl⟩
  go_wp2_with fail
  refine (many_in s u _ H.out.1).mono ?_
  rintro e w' ⟨rfl, rfl⟩
  rw [HN.out]
  go_wp2_with fail
  go_loopw [18, 7, 8] (fun i v _ wr => ∃ k : Nat, k ≤ N ∧ i = .int .i64 k ∧ wr.ownsRow W.heap.size 3 1 v k (ints (tab k (psize s u))) ∧
      Below W.heap.size W wr ∧ W.heap.size ≤ wr.heap.size) (fun i _ _ _ => N - (intOf i).toNat)
  case atStart => exact ⟨0, Nat.zero_le _, rfl, World.ownsRow_nil _ _ _ _, Below.refl _ _, Nat.le_refl _⟩
  case round =>
    obtain ⟨k, hk, rfl, hown, hb, hz⟩ := hrel
    have ho := Lib.hid hown
    have hbh := Lib.hid hb
    clear hown hb
    by_cases hlt : k < N
    · have hn1 : (k : Int) < N := by omega
      have hk0 : (0 : Int) ≤ k := by omega
      go_wp2_with fail
      refine (one_in s u k _ H.out (by rw [HN.out]; omega)).mono ?_
      rintro e w' ⟨rfl, rfl⟩
      go_wp2_with (at_builtin; refine wpList_push rfl (.tmp 21) (.tmp 26) _ rfl elemInt W.heap.size _ k _ _ rfl rfl ho.out hbh.out hz rfl (by omega) ?_; intro v1 w1 hown1 hb1 hz1)
      go_roundw
      case rel => exact ⟨k + 1, by omega, by go_num, by rw [tab_push] at hown1; exact hown1, hb1, hz1⟩
      case measure => simp [intOf]; omega
    · have hkn : k = N := by omega
      subst hkn
      go_wp2_with fail
      go_ret2
      obtain ⟨A1, c1, rfl, hc1⟩ := own_form ho.out
      exact ⟨_, _, rfl, Sl.of_own ho.out, hbh.out, hc1⟩
end Go.Proofs.Ytehdphkaknjlnaa
