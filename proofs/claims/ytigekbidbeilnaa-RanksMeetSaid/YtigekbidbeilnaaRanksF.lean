/- ranks.Fits. -/
import Derived.Test.YtigekbidbeilnaaRanksP
import Derived.Deep.RegionHeld3
set_option linter.unusedVariables false
namespace Go.Proofs.Ytigekbidbeilnaa
open Go.RowKit
set_option maxHeartbeats 3200000 in
theorem fits_ok (A : Option Addr) (n c : Nat) (zs : List Int) (W : World) (h : ranksOk zs n) (hc : n ≤ c) (hs : Sl W W.heap.size A (n * 3) (ints zs)) (v : Bool) (hv : v = true ↔ fitsR zs n) :
    Calls Try.prog 25 #[.slice A n c] W fun e w' => e = .returned (.tuple #[.bool v, .int .i64 0]) ∧ Below W.heap.size W w' := by
  have OK := Lib.hid h
  have HV := Lib.hid hv
  have n5 := h.1
  have HS := Lib.hid hs
  clear h hv
  go_enter Try.func25, Try.ntmps25
  go_wp2_with fail
  refine (rcheck_ok A n c zs _ OK.out hs).mono ?_
  rintro e w1 ⟨rfl, b1⟩
  have B1 := Lib.hid b1
  clear hs b1
  go_wp2_with fail
  go_loopw [13, 5] (fun i _ wr => ∃ k : Nat, k ≤ n ∧ i = .int .i64 k ∧ Hid (∀ j, j < k → okT zs j) ∧ Below W.heap.size W wr) (fun i _ _ => n - (intOf i).toNat)
  case atStart => exact ⟨0, Nat.zero_le _, rfl, Lib.hid (fun j hj => by omega), B1.out⟩
  case round =>
    obtain ⟨k, hk, rfl, hokT, hb⟩ := hrel
    have HB := Lib.hid hb
    have hk0 : (0 : Int) ≤ k := by omega
    by_cases hlt : k < n
    · obtain ⟨b, off, hA, hbl, -⟩ := HS.out.int_at (k := k * 3) (by omega)
      subst hA
      obtain ⟨c0, c1, c2⟩ := (HS.out.below hb).three hlt
      have hn1 : (k : Int) < n := by omega
      clear hb
      go_wp2_with fail
      have hbd : Below W.heap.size W wr.drew := HB.out.drew
      have hcd : wr.drew.cell? ⟨b, off + k * 3 + 2, none⟩ = some (.int .i64 (fd zs k 2)) := c2
      go_region_held3 (fun w' => Below W.heap.size W w' ∧ w'.cell? ⟨b, off + k * 3 + 2, none⟩ = some (.int .i64 (fd zs k 2))) (go_keep)
        (first | (go_at_call 33; refine (resp_any (some ⟨b, off, none⟩) n c zs k _ OK.out hlt hc ((HS.out.below hbd).more hbd.size)).mono ?_; rintro e w' ⟨⟨R, rfl, hR⟩, hbb⟩; have hb1 : Below W.heap.size W w' := hbd.trans (hbb.mono hbd.size); have hc1 : w'.cell? ⟨b, off + k * 3 + 2, none⟩ = some (.int .i64 (fd zs k 2)) := (hbb.cell (p := ⟨b, off + k * 3 + 2, none⟩) (Nat.lt_of_lt_of_le hbl hbd.size)).trans hcd; have HR := Lib.hid hR; clear hR))
      have HB1 := Lib.hid hb1
      clear hbd hcd hb1 hc1 hbb c0 c1 c2
      by_cases hR : R ≤ fd zs k 2
      · have N := Lib.hid ((resp_okT OK.out hlt HR.out).1 hR)
        go_wp2_with fail
        go_roundw
        case rel =>
          refine ⟨k + 1, by omega, by go_num, Lib.hid fun j hj => ?_, HB1.out⟩
          rcases Nat.lt_or_ge j k with h | h
          · exact hokT.out j h
          · obtain rfl : j = k := by omega
            exact N.out
        case measure => simp [intOf]; omega
      · have hRlt : fd zs k 2 < R := by omega
        have ev : Hid (v = false) := Bool.eq_false_iff.2 fun hv => hR ((resp_okT OK.out hlt HR.out).2 (HV.out.1 hv k hlt))
        clear hR
        go_wp2_with fail
        go_ret2
        exact ⟨by rw [ev.out]; rfl, HB1.out⟩
    · have hkn : k = n := by omega
      subst hkn
      have hn1 : ¬ (k : Int) < k := by omega
      have ev : Hid (v = true) := HV.out.2 hokT.out
      clear hb
      go_wp2_with fail
      go_ret2
      exact ⟨by rw [ev.out]; rfl, HB.out⟩
theorem fits_bad (A : Option Addr) (n c : Nat) (zs : List Int) (W : World) (h : ¬ ranksOk zs n) (hs : Sl W W.heap.size A (n * 3) (ints zs)) (hnn : n ≤ 9223372036854775807) :
    Calls Try.prog 25 #[.slice A n c] W fun e w' => e = .returned (.tuple #[.bool false, .int .i64 (ranksErr n)]) ∧ Below W.heap.size W w' := by
  have hne := ranksErr_ne n
  have H := Lib.hid h
  clear h
  go_enter Try.func25, Try.ntmps25
  go_wp2_with fail
  refine (rcheck_bad A n c zs _ H.out hs hnn).mono ?_
  rintro e w1 ⟨rfl, b1⟩
  clear hs
  go_wp2_with fail
  go_ret2
  exact ⟨rfl, b1⟩
end Go.Proofs.Ytigekbidbeilnaa
