/- slices.Equal of two slices of numbers: are the lists one? -/
import Derived.Test.YtpifknmoimlpoaaProg
import Derived.Test.YtpifknmoimlpoaaBase
import Derived.Deep.QuietTactic
import Derived.BigQuiet
set_option linter.unusedVariables false
namespace Go.Proofs.Ytpifknmoimlpoaa
open Go.RowKit
theorem take_eq_succ {xs ys : List Int} {k : Nat} (hx : k < xs.length) (hy : k < ys.length) (h : xs.take k = ys.take k) (he : gi xs k = gi ys k) : xs.take (k + 1) = ys.take (k + 1) := by
  rw [List.take_succ_eq_append_getElem hx, List.take_succ_eq_append_getElem hy, h]
  rw [gi_eq hx, gi_eq hy] at he
  rw [he]
theorem gi_congr {xs ys : List Int} (h : xs = ys) (k : Nat) : gi xs k = gi ys k := by rw [h]
set_option maxHeartbeats 400000 in
theorem equal_any (A B : Option Addr) (n c m d : Nat) (xs ys : List Int) (W : World) (B1 B2 : Nat) (hx : Sl W B1 A n (ints xs)) (hy : Sl W B2 B m (ints ys)) (hn : n ≤ 9223372036854775807) :
    Calls Try.prog 18 #[.slice A n c, .slice B m d] W fun e w' => e = .returned (.bool (decide (xs = ys))) ∧ ∃ q, w' = W.drewN q := by
  have lx := hx.int_len
  have ly := hy.int_len
  by_cases hnm : n = m
  · have hnm' : (n : Int) = m := by omega
    have hH : Hid (xs.length = n) := lx
    have hH2 : Hid (ys.length = n) := by rw [hnm]; exact ly
    clear lx ly
    have hne : ((n : Int) != m) = false := by simp; omega
    clear hnm'
    subst hnm
    go_enter Try.func18, Try.ntmps18
    go_wp2
    go_loopw [13] (fun i wr => ∃ k : Nat, k ≤ n ∧ i = .int .i64 k ∧ xs.take k = ys.take k ∧ ∃ q, wr = W.drewN q) (fun i _ => n - (intOf i).toNat)
    case atStart => exact ⟨0, Nat.zero_le _, rfl, rfl, 0, rfl⟩
    case round =>
      obtain ⟨k, hk, rfl, heq, q, rfl⟩ := hrel
      have hE := Lib.hid heq
      clear heq
      by_cases hlt : k < n
      · obtain ⟨b, off, rfl, hb, hc⟩ := hx.int_at hlt
        obtain ⟨b', off', rfl, hb', hc'⟩ := hy.int_at hlt
        clear hx hy
        have hn1 : (k : Int) < n := by omega
        have h0 : (0 : Int) ≤ k := by omega
        by_cases hv : gi xs k = gi ys k
        · have hv' : (gi xs k != gi ys k) = false := by simp [hv]
          have hV := Lib.hid hv
          clear hv
          go_wp2
          go_quiet (fail)
          go_wp2
          go_roundw
          case rel => exact ⟨k + 1, by omega, by go_num, take_eq_succ (by rw [hH.out]; omega) (by rw [hH2.out]; omega) hE.out hV.out, _, rfl⟩
          case measure => simp [intOf]; omega
        · have hv' : (gi xs k != gi ys k) = true := by simp [hv]
          have hd : Hid (decide (xs = ys) = false) := by
            simp only [decide_eq_false_iff_not]
            exact fun h => hv (gi_congr h k)
          clear hv
          go_wp2
          go_quiet (fail)
          go_wp2
          go_ret
          exact ⟨ret_bool hd.out.symm, _, World.drewN_drewN _ _ _⟩
      · have hd : decide (xs = ys) = true := by
          simp only [decide_eq_true_eq]
          have h := hE.out
          rwa [List.take_of_length_le (by rw [hH.out]; omega), List.take_of_length_le (by rw [hH2.out]; omega)] at h
        clear hx hy
        go_wp2
        go_ret
        exact ⟨ret_bool hd.symm, _, rfl⟩
  · have hd : decide (xs = ys) = false := by
      simp only [decide_eq_false_iff_not]
      rintro rfl
      omega
    have hne : ((n : Int) != m) = true := by simp; omega
    clear lx ly hx hy
    go_enter Try.func18, Try.ntmps18
    go_wp2
    go_ret
    exact ⟨ret_bool hd.symm, 0, rfl⟩
end Go.Proofs.Ytpifknmoimlpoaa
