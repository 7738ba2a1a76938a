/- line.Busy. -/
import Derived.Test.YtgenfiokplmgoaaBusyP
set_option linter.unusedVariables false
namespace Go.Proofs.Ytgenfiokplmgoaa
open Go.RowKit
set_option maxHeartbeats 1600000 in
theorem busy_any (A : Option Addr) (n c : Nat) (a : List Int) (r : Int) (W : World) (hs : Sl W W.heap.size A n (ints a)) (hn : n ≤ 9223372036854775807) (h : lineOk a r) (v er : Int) (hv : ((((bzm (fun i => lbuf a r (i + 1)) n : Nat) : Int), (0 : Int)) : Int × Int) = (v, er)) :
    Calls Try.prog 25 #[.slice A n c, .int .i64 r] W fun e w' => e = .returned (.tuple #[.int .i64 v, .int .i64 er]) ∧ Below W.heap.size W w' := by
  injection hv with e1 e2
  subst e2
  have hn60 : n ≤ 60 := by rw [← hs.int_len]; exact h.1.1
  have H := Lib.hid h
  have V := Lib.hid e1
  have HL := Lib.hid hs.int_len
  clear h e1
  go_enter Try.func25, Try.ntmps25
  go_wp2_with fail
  refine (lrun_t A n c a r _ hs hn H.out (tab n (ldep a r)) (tab n fun k => lbuf a r (k + 1)) 0 n rfl rfl).mono ?_
  rintro e w1 ⟨A1, c1, A2, c2, rfl, s1, s2, b1⟩
  have B1 := Lib.hid b1
  clear hs s1 b1
  go_wp2_with fail
  go_loop [25, 9, 10, 12] (fun i m u _ => ∃ k : Nat, k ≤ n ∧ i = .int .i64 k ∧ m = .int .i64 (bzm (fun i => lbuf a r (i + 1)) k) ∧ u = .int .i64 (bzn (fun i => lbuf a r (i + 1)) k)) (fun i _ _ _ => n - (intOf i).toNat)
  case atStart => exact ⟨0, Nat.zero_le _, rfl, rfl, rfl⟩
  case round =>
    obtain ⟨k, hk, rfl, rfl, rfl⟩ := hrel
    have b1 := bzm_le (fun i => lbuf a r (i + 1)) k
    have b2 := bzn_le (fun i => lbuf a r (i + 1)) k
    by_cases hlt : k < n
    · obtain ⟨b, off, rfl, hb, hc⟩ := s2.int_at hlt
      rw [tab_get _ hlt] at hc
      have hn1 : (k : Int) < n := by omega
      have hk0 : (0 : Int) ≤ k := by omega
      have m1 := bzn_succ (fun i => lbuf a r (i + 1)) k
      have m2 := bzm_succ (fun i => lbuf a r (i + 1)) k
      obtain ⟨x, hx⟩ : ∃ x, bzm (fun i => lbuf a r (i + 1)) k = x := ⟨_, rfl⟩
      obtain ⟨y, hy⟩ : ∃ y, bzn (fun i => lbuf a r (i + 1)) k = y := ⟨_, rfl⟩
      obtain ⟨q, hq⟩ : ∃ q, lbuf a r (k + 1) = q := ⟨_, rfl⟩
      rw [hx] at b1 m2 ⊢
      rw [hy] at b2 m1 ⊢
      rw [hq] at hc
      simp only [hq] at m1
      by_cases hp : 0 < q
      · rw [if_pos hp] at m1
        rw [m1] at m2
        obtain ⟨z, hz⟩ : ∃ z : Nat, (if (x : Int) < (y : Int) + 1 then (y : Int) + 1 else x) = z := by
          by_cases h : (x : Int) < (y : Int) + 1
          · exact ⟨y + 1, by rw [if_pos h]; omega⟩
          · exact ⟨x, by rw [if_neg h]⟩
        have m3 : bzm (fun i => lbuf a r (i + 1)) (k + 1) = z := by
          rw [m2]
          have : (if x < y + 1 then y + 1 else x : Nat) = z := by revert hz; split <;> split <;> omega
          exact this
        have M1 := Lib.hid m1
        have M3 := Lib.hid m3
        clear s2 hx hy hq m1 m2 m3
        go_wp2_with fail
        go_round
        case rel => exact ⟨k + 1, by omega, by go_num, by rw [M3.out], by rw [M1.out]; go_num⟩
        case measure => simp [intOf]; omega
      · rw [if_neg hp] at m1
        rw [m1] at m2
        have m3 : bzm (fun i => lbuf a r (i + 1)) (k + 1) = x := by rw [m2, if_neg (by omega)]
        have x0 : ¬ (x : Int) < 0 := by omega
        have M1 := Lib.hid m1
        have M3 := Lib.hid m3
        clear s2 hx hy hq m1 m2 m3
        go_wp2_with fail
        go_round
        case rel => exact ⟨k + 1, by omega, by go_num, by rw [M3.out], by rw [M1.out]; rfl⟩
        case measure => simp [intOf]; omega
    · have hkn : k = n := by omega
      subst hkn
      obtain ⟨x, hx⟩ : ∃ x, bzm (fun i => lbuf a r (i + 1)) k = x := ⟨_, rfl⟩
      have X := Lib.hid hx
      rw [hx] at b1 ⊢
      clear s2 hx
      go_wp2_with fail
      go_ret2
      exact ⟨by rw [← V.out, X.out]; rfl, B1.out⟩
end Go.Proofs.Ytgenfiokplmgoaa
