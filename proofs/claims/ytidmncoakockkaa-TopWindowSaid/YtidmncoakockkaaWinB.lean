/- window.Sent returns the times. -/
import Derived.Test.YtidmncoakockkaaElems
import Derived.Test.YtidmncoakockkaaWinA
namespace Go.Proofs.Ytidmncoakockkaa
open Go.RowKit
set_option maxHeartbeats 800000 in
theorem sent_nat (n w trip : Nat) (W : World) (hn : n ≤ 200) (hw : 1 ≤ w) (hw2 : w ≤ 200) (ht : 1 ≤ trip) (ht2 : trip ≤ 200) :
    Calls Try.prog 27 #[.int .i64 n, .int .i64 w, .int .i64 trip] W fun e w' => ∃ v, e = .returned (.tuple #[v, .int .i64 0]) ∧
      w'.ownsRow W.heap.size 3 1 v n (ints (wlist w trip n)) ∧ Below W.heap.size W w' := by
  have g1 : ¬ ((n : Int) < 0) := by omega
  have g2 : ¬ (200 < (n : Int)) := by omega
  have g3 : ¬ ((w : Int) < 1) := by omega
  have g4 : ¬ (200 < (w : Int)) := by omega
  have g5 : ¬ ((trip : Int) < 1) := by omega
  have g6 : ¬ (200 < (trip : Int)) := by omega
  go_enter Try.func27, Try.ntmps27
  go_wp2
  clear g1 g2 g3 g4 g5 g6
  go_loopw [8, 34] (fun v i wr => ∃ k : Nat, k ≤ n ∧ i = .int .i64 k ∧ wr.ownsRow W.heap.size 3 1 v k (ints (wlist w trip k)) ∧ Below W.heap.size W wr ∧ W.heap.size ≤ wr.heap.size) (fun _ i _ => n - (intOf i).toNat)
  case atStart => exact ⟨0, Nat.zero_le _, rfl, World.ownsRow_nil _ _ _ _, Below.refl _ _, Nat.le_refl _⟩
  case round =>
    obtain ⟨k, hk, rfl, hown, hb, hz⟩ := hrel
    by_cases hlt : k < n
    · have hbd := wtime_bd w trip (k - 1) hw ht (by omega) ht2
      have hbd2 := wtime_bd w trip (k - w) hw ht (by omega) ht2
      have hbd3 := wtime_bd w trip k hw ht (by omega) ht2
      have ho := Lib.hid hown
      have hbh := Lib.hid hb
      rcases Nat.eq_zero_or_pos k with rfl | h0
      · have hwk : ¬ (w ≤ 0) := by omega
        clear hown hb
        go_wp2_with (at_builtin; refine wpList_push rfl (.tmp 58) (.tmp 60) _ rfl elemInt W.heap.size _ 0 _ _ rfl rfl ho.out hbh.out hz rfl (by decide) ?_; intro v1 w1 hown1 hb1 hz1)
        go_roundw
        case rel => exact ⟨0 + 1, by omega, rfl, by rw [wlist_push _ _ _ _ (wstep_zero w trip)] at hown1; exact hown1, hb1, hz1⟩
        case measure => simp [intOf]; omega
      · obtain ⟨g, cap, rfl, _, _⟩ := hown.form h0
        have c1 := hown.cellAt (k - 1) (by omega)
        rw [wlist_at _ _ _ _ (by omega)] at c1
        by_cases hwk : w ≤ k
        · have c2 := hown.cellAt (k - w) (by omega)
          rw [wlist_at _ _ _ _ (by omega)] at c2
          clear hown hb
          go_wp2_with (at_builtin; refine wpList_push rfl (.tmp 58) (.tmp 60) _ rfl elemInt W.heap.size _ k _ _ rfl rfl ho.out hbh.out hz rfl (by omega) ?_; intro v1 w1 hown1 hb1 hz1)
          go_roundw
          case rel => exact ⟨k + 1, by omega, by go_num, by rw [wlist_push _ _ _ _ (wstep_over w trip k hw ht h0 hwk)] at hown1; exact hown1, hb1, hz1⟩
          case measure => simp [intOf]; omega
        · clear hown hb
          go_wp2_with (at_builtin; refine wpList_push rfl (.tmp 58) (.tmp 60) _ rfl elemInt W.heap.size _ k _ _ rfl rfl ho.out hbh.out hz rfl (by omega) ?_; intro v1 w1 hown1 hb1 hz1)
          go_roundw
          case rel => exact ⟨k + 1, by omega, by go_num, by rw [wlist_push _ _ _ _ (wstep_in w trip k hw ht h0 hwk)] at hown1; exact hown1, hb1, hz1⟩
          case measure => simp [intOf]; omega
    · go_wp2
      go_ret2
      obtain rfl : k = n := by omega
      exact ⟨_, rfl, hown, hb⟩
def winOk (n w trip : Int) : Prop := 0 ≤ n ∧ n ≤ 200 ∧ 1 ≤ w ∧ w ≤ 200 ∧ 1 ≤ trip ∧ trip ≤ 200
theorem sent_bad (n w trip : Int) (W : World) (h : ¬ winOk n w trip) :
    Calls Try.prog 27 #[.int .i64 n, .int .i64 w, .int .i64 trip] W fun e w' => e = .returned (.tuple #[.slice none 0 0, .int .i64 1]) ∧ W = w' := by
  unfold winOk at h
  have key : n < 0 ∨ (¬ n < 0 ∧ 200 < n) ∨ (¬ n < 0 ∧ ¬ 200 < n ∧ w < 1) ∨ (¬ n < 0 ∧ ¬ 200 < n ∧ ¬ w < 1 ∧ 200 < w) ∨ (¬ n < 0 ∧ ¬ 200 < n ∧ ¬ w < 1 ∧ ¬ 200 < w ∧ trip < 1) ∨
      (¬ n < 0 ∧ ¬ 200 < n ∧ ¬ w < 1 ∧ ¬ 200 < w ∧ ¬ trip < 1 ∧ 200 < trip) := by omega
  clear h
  rcases key with h1 | ⟨h1, h2⟩ | ⟨h1, h2, h3⟩ | ⟨h1, h2, h3, h4⟩ | ⟨h1, h2, h3, h4, h5⟩ | ⟨h1, h2, h3, h4, h5, h6⟩
  all_goals
    go_enter Try.func27, Try.ntmps27
    go_wp2
    go_ret2
    exact ⟨rfl, rfl⟩
def sentList (n w trip : Int) : List Int := wlist w.toNat trip.toNat n.toNat
theorem sent_ok (n w trip : Int) (W : World) (h : winOk n w trip) :
    Calls Try.prog 27 #[.int .i64 n, .int .i64 w, .int .i64 trip] W fun e w' => ∃ A c, e = .returned (.tuple #[.slice A n.toNat c, .int .i64 0]) ∧
      Sl w' w'.heap.size A n.toNat (ints (sentList n w trip)) ∧ Below W.heap.size W w' ∧ n.toNat ≤ c := by
  obtain ⟨h1, h2, h3, h4, h5, h6⟩ := h
  obtain ⟨n, rfl⟩ := Int.eq_ofNat_of_zero_le h1
  obtain ⟨w, rfl⟩ := Int.eq_ofNat_of_zero_le (show 0 ≤ w by omega)
  obtain ⟨trip, rfl⟩ := Int.eq_ofNat_of_zero_le (show 0 ≤ trip by omega)
  refine (sent_nat n w trip W (by omega) (by omega) (by omega) (by omega) (by omega)).mono ?_
  rintro e w' ⟨v, rfl, hown, hb⟩
  obtain ⟨A, c, rfl, hc⟩ := own_form hown
  exact ⟨A, c, rfl, Sl.of_own hown, hb, hc⟩
end Go.Proofs.Ytidmncoakockkaa
