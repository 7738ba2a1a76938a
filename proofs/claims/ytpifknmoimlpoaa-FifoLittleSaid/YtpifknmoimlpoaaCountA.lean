/- fifo.Count. -/
import Derived.Test.YtpifknmoimlpoaaPackA
import Derived.Test.YtpifknmoimlpoaaLitP
set_option linter.unusedVariables false
namespace Go.Proofs.Ytpifknmoimlpoaa
open Go.RowKit
set_option maxRecDepth 100000 in
set_option maxHeartbeats 3200000 in
theorem count_ok (A : Option Addr) (n c : Nat) (zs : List Int) (t : Int) (W : World) (hs : Sl W W.heap.size A (n * 3) (ints zs)) (hnn : n ≤ 9223372036854775807) (h0 : packErr zs n = 0) (v : Int) (hv : lcnt (fun k => fd zs k 0) (fun k => ffree zs (k + 1)) t n = v) :
    Calls Try.prog 77 #[.slice A n c, .int .i64 t] W fun e w' => e = .returned (.tuple #[.int .i64 v, .int .i64 0]) ∧ Below W.heap.size W w' := by
  have SS := Lib.hid hs
  have PK := Lib.hid (packs_of h0)
  have H0 := Lib.hid h0
  have HV := Lib.hid hv
  have n60 := PK.out.top
  clear hs h0 hv
  go_enter Try.func77, Try.ntmps77
  go_wp2_with fail
  refine (fifo_any A n c zs _ SS.out hnn (fdone zs n) 0 n (if_pos H0.out) (by rw [fdone, tab_len])).mono ?_
  rintro e w1 ⟨A1, c1, rfl, s1, l1, b1, -⟩
  have S1 := Lib.hid s1
  have B1 := Lib.hid b1
  clear s1 b1
  go_wp2_with fail
  go_loopw [21, 8] (fun vi vn wr => ∃ k : Nat, k ≤ n ∧ vi = .int .i64 (k : Int) ∧ vn = .int .i64 (lcnt (fun k => fd zs k 0) (fun k => ffree zs (k + 1)) t k) ∧ Hid (Below w1.heap.size w1 wr)) (fun vi _ _ => n - (intOf vi).toNat)
  case atStart => exact ⟨0, Nat.zero_le _, rfl, rfl, Lib.hid (Below.refl _ _)⟩
  case round =>
    obtain ⟨k, hk, rfl, rfl, HB⟩ := hrel
    have hz := HB.out.size
    have BW := Lib.hid (B1.out.trans (HB.out.mono B1.out.size))
    have hk0 : (0 : Int) ≤ k := by omega
    by_cases hlt : k < n
    · have hn1 : (k : Int) < n := by omega
      obtain ⟨b, off, rfl, hbl, -⟩ := (SS.out.below BW.out).int_at (k := k * 3) (by omega)
      obtain ⟨c0, c1', c2⟩ := (SS.out.below BW.out).three hlt
      obtain ⟨bd, od, rfl, hbd, cd⟩ := (S1.out.below HB.out).int_at hlt
      rw [fdone, tab_get _ hlt] at cd
      have cb := lcnt_bd (fun k => fd zs k 0) (fun k => ffree zs (k + 1)) t k
      have LS : Hid (lcnt (fun k => fd zs k 0) (fun k => ffree zs (k + 1)) t (k + 1) = lcnt (fun k => fd zs k 0) (fun k => ffree zs (k + 1)) t k + if fd zs k 0 ≤ t ∧ t < ffree zs (k + 1) then 1 else 0) := Lib.hid rfl
      obtain ⟨x, hx⟩ : ∃ x, fd zs k 0 = x := ⟨_, rfl⟩
      obtain ⟨y, hy⟩ : ∃ x, fd zs k 1 = x := ⟨_, rfl⟩
      obtain ⟨z, hz'⟩ : ∃ x, fd zs k 2 = x := ⟨_, rfl⟩
      obtain ⟨d, hd⟩ : ∃ x, ffree zs (k + 1) = x := ⟨_, rfl⟩
      obtain ⟨m, hm⟩ : ∃ x, lcnt (fun k => fd zs k 0) (fun k => ffree zs (k + 1)) t k = x := ⟨_, rfl⟩
      rw [hx] at c0 LS
      rw [hy] at c1'
      rw [hz'] at c2
      rw [hd] at cd LS
      rw [hm] at LS cb ⊢
      have dd : (wr.alloc (.cells #[.int .i64 x, .int .i64 y, .int .i64 z] 59)).cell? ⟨bd, od + k, none⟩ = some (.int .i64 d) := by
        rw [World.cell?_alloc_lt _ _ _ (show bd < wr.heap.size by omega)]; exact cd
      have BA := Lib.hid (HB.out.alloc hz (.cells #[.int .i64 x, .int .i64 y, .int .i64 z] 59))
      clear hx hy hz' hd hm
      by_cases h1 : x ≤ t
      · by_cases h2 : t < d
        · have e : Hid ((if x ≤ t ∧ t < d then (1 : Int) else 0) = 1) := Lib.hid (if_pos ⟨h1, h2⟩)
          go_wp2_with fail
          go_roundw
          case rel => exact ⟨k + 1, by omega, by go_num, by rw [LS.out, e.out], BA⟩
          case measure => simp [intOf]; omega
        · have e : Hid ((if x ≤ t ∧ t < d then (1 : Int) else 0) = 0) := Lib.hid (if_neg fun h => h2 h.2)
          go_wp2_with fail
          go_roundw
          case rel => exact ⟨k + 1, by omega, by go_num, by rw [LS.out, e.out, Int.add_zero], BA⟩
          case measure => simp [intOf]; omega
      · have e : Hid ((if x ≤ t ∧ t < d then (1 : Int) else 0) = 0) := Lib.hid (if_neg fun h => h1 h.1)
        go_wp2_with fail
        go_roundw
        case rel => exact ⟨k + 1, by omega, by go_num, by rw [LS.out, e.out, Int.add_zero], BA⟩
        case measure => simp [intOf]; omega
    · have hkn : k = n := by omega
      subst hkn
      have hn1 : ¬ (k : Int) < k := by omega
      rw [HV.out]
      go_wp2_with fail
      go_ret2
      exact ⟨rfl, BW.out⟩
end Go.Proofs.Ytpifknmoimlpoaa
