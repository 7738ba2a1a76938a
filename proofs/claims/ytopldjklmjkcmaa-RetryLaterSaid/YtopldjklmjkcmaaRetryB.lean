/- retry.Waits and retry.When return the waiting times and the time of the first attempt that is not lost. -/
import Derived.Test.YtopldjklmjkcmaaElems
import Derived.Test.YtopldjklmjkcmaaRetryA
set_option linter.unusedVariables false
namespace Go.Proofs.Ytopldjklmjkcmaa
open Go.RowKit
theorem rlook_ok (f m : Int) (W : World) (h : retryOk f m) :
    Calls Try.prog 31 #[.int .i64 f, .int .i64 m] W fun e w' => e = .returned (.int .i64 0) ∧ W = w' := by
  obtain ⟨h1, h2, h3⟩ := h
  have g1 : ¬ (f < 1) := by omega
  have g2 : ¬ (m < f) := by omega
  have g3 : ¬ (1000000 < m) := by omega
  go_enter Try.func31, Try.ntmps31
  go_wp2
  go_ret
  exact ⟨rfl, rfl⟩
theorem rlook_bad (f m : Int) (W : World) (h : ¬ retryOk f m) :
    Calls Try.prog 31 #[.int .i64 f, .int .i64 m] W fun e w' => e = .returned (.int .i64 1) ∧ W = w' := by
  unfold retryOk at h
  have key : f < 1 ∨ (¬ f < 1 ∧ m < f) ∨ (¬ f < 1 ∧ ¬ m < f ∧ 1000000 < m) := by omega
  clear h
  rcases key with h1 | ⟨h1, h2⟩ | ⟨h1, h2, h3⟩
  all_goals
    go_enter Try.func31, Try.ntmps31
    go_wp2
    go_ret
    exact ⟨rfl, rfl⟩
theorem waits_bad (f m n : Int) (W : World) (h : ¬ (retryOk f m ∧ 0 ≤ n ∧ n ≤ 40)) :
    Calls Try.prog 19 #[.int .i64 f, .int .i64 m, .int .i64 n] W fun e w' => e = .returned (.tuple #[.slice none 0 0, .int .i64 1]) ∧ W = w' := by
  by_cases hr : retryOk f m
  · have key : n < 0 ∨ (¬ n < 0 ∧ 40 < n) := by
      rcases Classical.em (0 ≤ n ∧ n ≤ 40) with h' | h'
      · exact absurd ⟨hr, h'⟩ h
      · omega
    have H := Lib.hid hr
    clear h hr
    rcases key with h1 | ⟨h1, h2⟩
    all_goals
      go_enter Try.func19, Try.ntmps19
      go_wp2_with (go_at_call 31; refine (rlook_ok _ _ _ H.out).mono ?_; rintro e w' ⟨rfl, rfl⟩)
      go_ret2
      exact ⟨rfl, rfl⟩
  · have H := Lib.hid hr
    clear h hr
    go_enter Try.func19, Try.ntmps19
    go_wp2_with (go_at_call 31; refine (rlook_bad _ _ _ H.out).mono ?_; rintro e w' ⟨rfl, rfl⟩)
    go_ret2
    exact ⟨rfl, rfl⟩
set_option maxHeartbeats 800000 in
theorem waits_ok (f m : Int) (n : Nat) (W : World) (h : retryOk f m) (hn : n ≤ 40) :
    Calls Try.prog 19 #[.int .i64 f, .int .i64 m, .int .i64 n] W fun e w' => ∃ A c, e = .returned (.tuple #[.slice A n c, .int .i64 0]) ∧
      Sl w' w'.heap.size A n (ints (rlist f m n)) ∧ Below W.heap.size W w' ∧ n ≤ c := by
  have h' := h
  obtain ⟨h1, h2, h3⟩ := h'
  have H := Lib.hid h
  have g1 : ¬ ((n : Int) < 0) := by omega
  have g2 : ¬ (40 < (n : Int)) := by omega
  go_enter Try.func19, Try.ntmps19
  go_wp2_with (go_at_call 31; refine (rlook_ok _ _ _ H.out).mono ?_; rintro e w' ⟨rfl, rfl⟩)
  go_loopw [9, 10] (fun v x wr => ∃ k A c, k ≤ n ∧ v = .slice A k c ∧ x = .int .i64 (rwait f m k) ∧ wr.ownsRow W.heap.size 3 1 v k (ints (rlist f m k)) ∧ Below W.heap.size W wr ∧ W.heap.size ≤ wr.heap.size)
    (fun v _ _ => n - lenOf v)
  case atStart => exact ⟨0, none, 0, by omega, rfl, rfl, World.ownsRow_nil _ _ _ _, Below.refl _ _, Nat.le_refl _⟩
  case round =>
    obtain ⟨k, A, c, hk, rfl, rfl, hown, hb, hz⟩ := hrel
    have hbd := rwait_bd h k
    obtain ⟨hl, hu⟩ := hbd
    have ho := Lib.hid hown
    have hbh := Lib.hid hb
    clear hown hb h
    by_cases hlt : k < n
    · skip
      go_wp2_with (at_builtin; refine wpList_push rfl (.tmp 32) (.tmp 34) _ rfl elemInt W.heap.size _ k _ _ rfl rfl ho.out hbh.out hz rfl (by omega) ?_; intro v1 w1 hown1 hb1 hz1; obtain ⟨A1, c1, rfl, hc1⟩ := own_form hown1)
      go_roundw
      case rel => exact ⟨k + 1, A1, c1, by omega, rfl, by rw [rwait_succ], by rw [← rlist_push]; exact hown1, hb1, hz1⟩
      case measure => simp only [lenOf]; omega
    · have hkn : k = n := by omega
      subst hkn
      go_wp2
      go_ret2
      obtain ⟨A', c', e, hc⟩ := own_form ho.out
      injection e with e1 _ e2
      subst e1 e2
      exact ⟨_, _, rfl, Sl.of_own ho.out, hbh.out, hc⟩
theorem when_large (f m : Int) (A : Option Addr) (n c : Nat) (W : World) (h : 40 < n) :
    Calls Try.prog 20 #[.int .i64 f, .int .i64 m, .slice A n c] W fun e w' => e = .returned (.tuple #[.int .i64 0, .int .i64 2]) ∧ W = w' := by
  have g1 : 40 < (n : Int) := by omega
  go_enter Try.func20, Try.ntmps20
  go_wp2_with fail
  go_ret2
  exact ⟨rfl, rfl⟩
theorem when_bad (f m : Int) (A : Option Addr) (n c : Nat) (W : World) (h : n ≤ 40) (hr : ¬ retryOk f m) :
    Calls Try.prog 20 #[.int .i64 f, .int .i64 m, .slice A n c] W fun e w' => e = .returned (.tuple #[.int .i64 0, .int .i64 1]) ∧ W = w' := by
  have g1 : ¬ 40 < (n : Int) := by omega
  have H := Lib.hid hr
  clear hr
  go_enter Try.func20, Try.ntmps20
  go_wp2_with (go_at_call 19; refine (waits_bad _ _ _ _ (fun hh => H.out hh.1)).mono ?_; rintro e w' ⟨rfl, rfl⟩)
  go_ret2
  exact ⟨rfl, rfl⟩
/-- The time of the first attempt that is not lost; none: ErrNone. -/
theorem when_got (f m : Int) (A : Option Addr) (n c k : Nat) (bs : List Bool) (W : World) (h : n ≤ 40) (hr : retryOk f m) (hs : Sl W W.heap.size A n (bools bs)) (hk : FirstGot bs k) :
    Calls Try.prog 20 #[.int .i64 f, .int .i64 m, .slice A n c] W fun e w' => e = .returned (.tuple #[.int .i64 (rtime f m k), .int .i64 0]) ∧ Below W.heap.size W w' := by
  have g1 : ¬ 40 < (n : Int) := by omega
  have hlen := hs.bool_len
  obtain ⟨k1, k2, k3⟩ := hk
  have hkn : k < n := by omega
  have H := Lib.hid hr
  have K2 := Lib.hid k2
  have K3 := Lib.hid k3
  clear hr hlen k2 k3
  go_enter Try.func20, Try.ntmps20
  go_wp2_with (go_at_call 19; refine (waits_ok f m n _ H.out h).mono ?_; rintro e w1 ⟨A1, c1, rfl, hs1, hb1, _⟩)
  have hs' := hs.on hb1
  clear hs
  go_loop [29, 10, 11, 12] (fun i t _ _ => ∃ j : Nat, j ≤ k ∧ i = .int .i64 j ∧ t = .int .i64 (rtime f m j)) (fun i _ _ _ => k - (intOf i).toNat)
  case atStart => exact ⟨0, Nat.zero_le _, rfl, rfl⟩
  case round =>
    obtain ⟨j, hj, rfl, rfl⟩ := hrel
    obtain ⟨b, off, rfl, hbl, hc⟩ := hs'.bool_at (k := j) (by omega)
    obtain ⟨b2, off2, rfl, hbl2, hc2⟩ := hs1.int_at (k := j) (by omega)
    rw [rlist_get _ _ (by omega)] at hc2
    have hj1 : (j : Int) < n := by omega
    have hj0 : (0 : Int) ≤ j := by omega
    have hw := rwait_bd H.out j
    have ht := rtime_le H.out j (by omega)
    obtain ⟨r1, r2, r3⟩ := H.out
    by_cases hlt : j < k
    · rw [K3.out j hlt] at hc
      clear hs' hs1
      go_wp2
      go_round
      case rel => exact ⟨j + 1, by omega, by go_num, by rw [rtime_succ]⟩
      case measure => simp [intOf]; omega
    · have hjk : j = k := by omega
      subst hjk
      rw [K2.out] at hc
      clear hs' hs1
      go_wp2
      go_ret2
      exact ⟨rfl, hb1⟩
theorem when_none (f m : Int) (A : Option Addr) (n c : Nat) (bs : List Bool) (W : World) (h : n ≤ 40) (hr : retryOk f m) (hs : Sl W W.heap.size A n (bools bs)) (hk : ∀ i, i < n → gb bs i = true) :
    Calls Try.prog 20 #[.int .i64 f, .int .i64 m, .slice A n c] W fun e w' => e = .returned (.tuple #[.int .i64 0, .int .i64 5]) ∧ Below W.heap.size W w' := by
  have g1 : ¬ 40 < (n : Int) := by omega
  have H := Lib.hid hr
  have K3 := Lib.hid hk
  clear hr hk
  go_enter Try.func20, Try.ntmps20
  go_wp2_with (go_at_call 19; refine (waits_ok f m n _ H.out h).mono ?_; rintro e w1 ⟨A1, c1, rfl, hs1, hb1, _⟩)
  have hs' := hs.on hb1
  clear hs
  go_loop [29, 10, 11, 12] (fun i t _ _ => ∃ j : Nat, j ≤ n ∧ i = .int .i64 j ∧ t = .int .i64 (rtime f m j)) (fun i _ _ _ => n - (intOf i).toNat)
  case atStart => exact ⟨0, Nat.zero_le _, rfl, rfl⟩
  case round =>
    obtain ⟨j, hj, rfl, rfl⟩ := hrel
    by_cases hlt : j < n
    · obtain ⟨b, off, rfl, hbl, hc⟩ := hs'.bool_at (k := j) (by omega)
      obtain ⟨b2, off2, rfl, hbl2, hc2⟩ := hs1.int_at (k := j) (by omega)
      rw [rlist_get _ _ (by omega)] at hc2
      have hj1 : (j : Int) < n := by omega
      have hj0 : (0 : Int) ≤ j := by omega
      have hw := rwait_bd H.out j
      have ht := rtime_le H.out j (by omega)
      obtain ⟨r1, r2, r3⟩ := H.out
      rw [K3.out j hlt] at hc
      clear hs' hs1
      go_wp2
      go_round
      case rel => exact ⟨j + 1, by omega, by go_num, by rw [rtime_succ]⟩
      case measure => simp [intOf]; omega
    · have hjn : j = n := by omega
      subst hjn
      clear hs' hs1
      go_wp2
      go_ret2
      exact ⟨rfl, hb1⟩
theorem first_or_none (bs : List Bool) : (∃ k, FirstGot bs k) ∨ ∀ i, i < bs.length → gb bs i = true := by
  induction bs with
  | nil => right; intro i h; simp at h
  | cons b t ih =>
    cases b with
    | false => left; exact ⟨0, by simp, rfl, fun i h => absurd h (by omega)⟩
    | true =>
      rcases ih with ⟨k, h1, h2, h3⟩ | h
      · left
        refine ⟨k + 1, by simpa using h1, by simpa [gb] using h2, fun i hi => ?_⟩
        rcases i with _ | i
        · rfl
        · have := h3 i (by omega)
          simpa [gb] using this
      · right
        intro i hi
        rcases i with _ | i
        · rfl
        · have := h i (by simpa using hi)
          simpa [gb] using this
end Go.Proofs.Ytopldjklmjkcmaa
