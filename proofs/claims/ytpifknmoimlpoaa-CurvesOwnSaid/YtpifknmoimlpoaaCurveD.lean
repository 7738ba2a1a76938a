/- curve.Fit, curve.Cut, point.Up. -/
import Derived.Test.YtpifknmoimlpoaaCurveB
import Derived.Test.YtpifknmoimlpoaaOwnT
set_option linter.unusedVariables false
namespace Go.Proofs.Ytpifknmoimlpoaa
open Go.RowKit
theorem fit_any (A : Option Addr) (n c : Nat) (l : List Int) (W0 W : World) (hs : Sl W W.heap.size A n (ints l)) (hb : Below W0.heap.size W0 W) (ho : W.ownsRow W0.heap.size 3 1 (.slice A n c) n (ints l)) (hn : n ≤ c) (hnn : n ≤ 9223372036854775807) (zs : List Int) (er : Int) (m : Nat) (h : fit l = (zs, er)) (hm : zs.length = m) :
    Calls Try.prog 100 #[.slice A n c] W (RetSl W0 m zs er) := by
  have hlen := hs.int_len
  have HB := Lib.hid hb
  have HS := Lib.hid hs
  have HO := Lib.hid ho
  have HL := Lib.hid hlen
  have HN := Lib.hid hn
  
  rcases first_bad' l (fun z => z ≤ 1000000) with hall | ⟨k, k1, k2, k3⟩
  · have hfy : fit l = (l, 0) := fit_yes (by unfold fits; rw [List.all_eq_true]; intro z hz; exact decide_eq_true (hall z hz))
    rw [hfy] at h
    injection h with h1 h2
    subst h1 h2
    have HM := Lib.hid hm
    have HF := Lib.hid hall
    clear hfy hall hlen hb hn hm ho
    go_enter Try.func100, Try.ntmps100
    go_wp2_with fail
    go_loop [8, 5] (fun i _ => ∃ k : Nat, k ≤ n ∧ i = .int .i64 k) (fun i _ => n - (intOf i).toNat)
    case atStart => exact ⟨0, Nat.zero_le _, rfl⟩
    case round =>
      obtain ⟨k, hk, rfl⟩ := hrel
      by_cases hlt : k < n
      · obtain ⟨b, off, rfl, hbl, hc⟩ := hs.int_at hlt
        have hb := HF.out _ (gi_mem (zs := l) (k := k) (by rw [HL.out]; exact hlt))
        have hn1 : (k : Int) < n := by omega
        have hk0 : (0 : Int) ≤ k := by omega
        have hb' : ¬ 1000000 < gi l k := by omega
        clear hs
        go_wp2_with fail
        go_round
        case rel => exact ⟨k + 1, by omega, by go_num⟩
        case measure => simp [intOf]; omega
      · clear hs
        go_wp2_with fail
        go_ret2
        obtain rfl : n = m := by rw [← HL.out, HM.out]
        exact ⟨A, c, rfl, HS.out, HN.out, HB.out, HO.out⟩
  · have hfn : fit l = ([], 2) := fit_no (by
      unfold fits
      rw [List.all_eq_true]
      intro hh
      exact k2 (of_decide_eq_true (hh _ (gi_mem k1))))
    have hkn : k < n := by omega
    have hgt : 1000000 < gi l k := by omega
    have H3 := Lib.hid k3
    have HF := Lib.hid (And.intro h (And.intro hm hfn))
    clear h hm hfn k2 k3 hlen hb hn ho
    go_enter Try.func100, Try.ntmps100
    go_wp2_with fail
    go_loop [8, 5] (fun i _ => ∃ j : Nat, j ≤ k ∧ i = .int .i64 j) (fun i _ => k - (intOf i).toNat)
    case atStart => exact ⟨0, Nat.zero_le _, rfl⟩
    case round =>
      obtain ⟨j, hj, rfl⟩ := hrel
      obtain ⟨b, off, rfl, hbl, hc⟩ := hs.int_at (k := j) (by omega)
      have hn1 : (j : Int) < n := by omega
      have hk0 : (0 : Int) ≤ j := by omega
      by_cases hlt : j < k
      · have hb := H3.out j hlt
        have hb' : ¬ 1000000 < gi l j := by omega
        clear hs hgt
        go_wp2_with fail
        go_round
        case rel => exact ⟨j + 1, by omega, by go_num⟩
        case measure => simp [intOf]; omega
      · have hjk : j = k := by omega
        subst hjk
        clear hs
        go_wp2_with fail
        go_ret2
        exact RetSl.nil HF.out.1 HF.out.2.1 HF.out.2.2 HB.out
end Go.Proofs.Ytpifknmoimlpoaa
