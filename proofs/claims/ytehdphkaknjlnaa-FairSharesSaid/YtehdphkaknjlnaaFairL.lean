/- What the three laws of fair.Run lean on: the weights, small orders, numbers that rise. -/
import Derived.Test.YtehdphkaknjlnaaFairA
import Derived.Test.YtehdphkaknjlnaaKit0
set_option linter.unusedVariables false
namespace Go.Proofs.Ytehdphkaknjlnaa
open Go.RowKit
theorem weights_any (w : World) : Calls Try.prog 28 #[] w fun e w' => e = .returned (.slice (some ⟨w.heap.size, 0, none⟩) 8 8) ∧ w' = w.alloc (.cells (ints [1, 1, 1, 1, 1, 1, 1, 1]).toArray 3) := by
  go_enter Try.func28, Try.ntmps28
  go_wp2_with fail
  go_ret
  exact ⟨rfl, rfl⟩
section
variable {ws zs : List Int} {n : Nat} {os : List Nat}
theorem FOut.len (h : FOut ws zs n os) : os.length = n := by simpa using h.perm.length_eq
theorem FOut.lt (h : FOut ws zs n os) {i : Nat} (hi : i ∈ os) : i < n := List.mem_range.1 (h.perm.mem_iff.1 hi)
theorem FOut.nodup (h : FOut ws zs n os) : os.Nodup := h.perm.nodup_iff.2 List.nodup_range
theorem FOut.two (h : FOut ws zs 2 os) (hz : ∀ i, i < 2 → fd zs i 0 = 0) : ∃ a b, os = [a, b] ∧ a < 2 ∧ b < 2 ∧ lx ws zs a b := by
  have hl := h.len
  match os, hl, h with
  | [a, b], _, h =>
    have hp := h.zero hz
    rw [List.pairwise_cons] at hp
    exact ⟨a, b, rfl, h.lt (by simp), h.lt (by simp), hp.1 b (by simp)⟩
theorem FOut.three (h : FOut ws zs 3 os) (hz : ∀ i, i < 3 → fd zs i 0 = 0) : ∃ a b c, os = [a, b, c] ∧ a < 3 ∧ b < 3 ∧ c < 3 ∧ lx ws zs a b ∧ lx ws zs a c ∧ lx ws zs b c := by
  have hl := h.len
  match os, hl, h with
  | [a, b, c], _, h =>
    have hp := h.zero hz
    rw [List.pairwise_cons, List.pairwise_cons] at hp
    exact ⟨a, b, c, rfl, h.lt (by simp), h.lt (by simp), h.lt (by simp), hp.1 b (by simp), hp.1 c (by simp), hp.2.1 c (by simp)⟩
end
theorem fair_lit1 {os : List Nat} (h : FOut [1, 1, 1, 1, 1, 1, 1, 1] [0, 9, 0, 0, 1, 0] 2 os) : onat os = [0, 1] := by
  have hz : ∀ i, i < 2 → fd [0, 9, 0, 0, 1, 0] i 0 = 0 := fun i hi => by
    have : i = 0 ∨ i = 1 := by omega
    rcases this with rfl | rfl <;> rfl
  obtain ⟨a, b, rfl, ha, hb, h1⟩ := h.two hz
  have e0 : fst [1, 1, 1, 1, 1, 1, 1, 1] [0, 9, 0, 0, 1, 0] 0 = 0 := by decide +kernel
  have e1 : fst [1, 1, 1, 1, 1, 1, 1, 1] [0, 9, 0, 0, 1, 0] 1 = 7560 := by decide +kernel
  have ha' : a = 0 ∨ a = 1 := by omega
  have hb' : b = 0 ∨ b = 1 := by omega
  rcases ha' with rfl | rfl <;> rcases hb' with rfl | rfl <;> first | rfl | (exfalso; simp [lx, e0, e1] at h1)
theorem fair_lit2 {os : List Nat} (h : FOut [1, 1, 1, 1, 1, 1, 1, 1] [0, 4, 0, 0, 4, 0, 0, 1, 1] 3 os) : onat os = [0, 2, 1] := by
  have hz : ∀ i, i < 3 → fd [0, 4, 0, 0, 4, 0, 0, 1, 1] i 0 = 0 := fun i hi => by
    have : i = 0 ∨ i = 1 ∨ i = 2 := by omega
    rcases this with rfl | rfl | rfl <;> rfl
  obtain ⟨a, b, c, rfl, ha, hb, hc, h1, h2, h3⟩ := h.three hz
  have e0 : fst [1, 1, 1, 1, 1, 1, 1, 1] [0, 4, 0, 0, 4, 0, 0, 1, 1] 0 = 0 := by decide +kernel
  have e1 : fst [1, 1, 1, 1, 1, 1, 1, 1] [0, 4, 0, 0, 4, 0, 0, 1, 1] 1 = 3360 := by decide +kernel
  have e2 : fst [1, 1, 1, 1, 1, 1, 1, 1] [0, 4, 0, 0, 4, 0, 0, 1, 1] 2 = 0 := by decide +kernel
  have ha' : a = 0 ∨ a = 1 ∨ a = 2 := by omega
  have hb' : b = 0 ∨ b = 1 ∨ b = 2 := by omega
  have hc' : c = 0 ∨ c = 1 ∨ c = 2 := by omega
  rcases ha' with rfl | rfl | rfl <;> rcases hb' with rfl | rfl | rfl <;> rcases hc' with rfl | rfl | rfl <;> first | rfl | (exfalso; simp [lx, e0, e1, e2] at h1 h2 h3)
theorem fair_lit3 {os : List Nat} (h : FOut [1, 1, 1, 1, 1, 1, 1, 1] [0, 1, 0, 0, 1, 1, 0, 1, 0] 3 os) : onat os = [0, 1, 2] := by
  have hz : ∀ i, i < 3 → fd [0, 1, 0, 0, 1, 1, 0, 1, 0] i 0 = 0 := fun i hi => by
    have : i = 0 ∨ i = 1 ∨ i = 2 := by omega
    rcases this with rfl | rfl | rfl <;> rfl
  obtain ⟨a, b, c, rfl, ha, hb, hc, h1, h2, h3⟩ := h.three hz
  have e0 : fst [1, 1, 1, 1, 1, 1, 1, 1] [0, 1, 0, 0, 1, 1, 0, 1, 0] 0 = 0 := by decide +kernel
  have e1 : fst [1, 1, 1, 1, 1, 1, 1, 1] [0, 1, 0, 0, 1, 1, 0, 1, 0] 1 = 0 := by decide +kernel
  have e2 : fst [1, 1, 1, 1, 1, 1, 1, 1] [0, 1, 0, 0, 1, 1, 0, 1, 0] 2 = 840 := by decide +kernel
  have ha' : a = 0 ∨ a = 1 ∨ a = 2 := by omega
  have hb' : b = 0 ∨ b = 1 ∨ b = 2 := by omega
  have hc' : c = 0 ∨ c = 1 ∨ c = 2 := by omega
  rcases ha' with rfl | rfl | rfl <;> rcases hb' with rfl | rfl | rfl <;> rcases hc' with rfl | rfl | rfl <;> first | rfl | (exfalso; simp [lx, e0, e1, e2] at h1 h2 h3)
theorem isNaN_any (x : Int) (w : World) : Calls Try.prog 58 #[.int .i64 x] w fun e w' => e = .returned (.bool false) ∧ w' = w := by
  go_enter Try.func58, Try.ntmps58
  go_wp2_with fail
  go_ret
  exact ⟨rfl, rfl⟩
theorem cless_no (x y : Int) (w : World) (h : y ≤ x) : Calls Try.prog 49 #[.int .i64 x, .int .i64 y] w fun e w' => e = .returned (.bool false) ∧ w' = w := by
  go_enter Try.func49, Try.ntmps49
  go_wp2_with fail
  refine (isNaN_any x _).mono ?_
  rintro e w1 ⟨rfl, rfl⟩
  go_wp2_with fail
  go_ret
  exact ⟨ret_bool (decide_eq_false (by omega)), rfl⟩
theorem sorted_ok (A : Option Addr) (n c : Nat) (zs : List Int) (W : World) (hs : Sl W W.heap.size A n (ints zs)) (hn : n ≤ 9223372036854775807) (hup : ∀ q, q + 1 < n → gi zs q ≤ gi zs (q + 1)) :
    Calls Try.prog 32 #[.slice A n c] W fun e w' => e = .returned (.bool true) ∧ Below W.heap.size W w' := by
  have SS := Lib.hid hs
  have UP := Lib.hid hup
  have f0 : IntKind.i64.wrap ((n : Int) - 1) = (n : Int) - 1 := IntWalk.i64_in _ ⟨by omega, by omega⟩
  clear hs hup
  go_enter Try.func32, Try.ntmps32
  go_wp2_with fail
  go_loopw [3] (fun vi wr => ∃ z : Int, -1 ≤ z ∧ z < n ∧ vi = .int .i64 z ∧ Hid (Below W.heap.size W wr)) (fun vi _ => (intOf vi + 1).toNat)
  case atStart => exact ⟨(n : Int) - 1, by omega, by omega, by first | rfl | rw [f0], Lib.hid (Below.refl _ _)⟩
  case round =>
    obtain ⟨z, hz0, hz1, rfl, hB⟩ := hrel
    by_cases h1 : 0 < z
    · obtain ⟨j, rfl⟩ : ∃ j : Nat, z = (j : Int) + 1 := ⟨(z - 1).toNat, by omega⟩
      obtain ⟨b, off, rfl, hbl, c1⟩ := (SS.out.below hB.out).int_at (k := j + 1) (by omega)
      have c0 := (SS.out.below hB.out).int_cell (k := j) (by omega)
      have hu := UP.out j (by omega)
      obtain ⟨x, hx⟩ : ∃ x, gi zs (j + 1) = x := ⟨_, rfl⟩
      obtain ⟨y, hy⟩ : ∃ y, gi zs j = y := ⟨_, rfl⟩
      rw [hx] at c1 hu
      rw [hy] at c0 hu
      have hxy : y ≤ x := by omega
      have HXY := Lib.hid hxy
      have e4 : ((j : Int) + 1).toNat = j + 1 := by omega
      have e5 : (0 : Int) ≤ (j : Int) + 1 := by omega
      have e6 : (j : Int) + 1 < n := by omega
      have e7 : (j : Int) + 1 - 1 = j := by omega
      have e8 : (j : Int) < n := by omega
      have e9 : j + 1 < n := by omega
      have e10 : j < n := by omega
      have e11 : (0 : Int) ≤ j := by omega
      have e12 : IntKind.i64.wrap (j : Int) = j := IntWalk.i64_in _ ⟨by omega, by omega⟩
      clear hx hy hu hxy
      go_wp2_with fail
      go_quiet ((go_at_call 49; exact Calls.quiet_of_same (cless_no x y _ HXY.out)))
      go_wp2_with fail
      go_roundw
      case rel => exact ⟨(j : Int), by omega, by omega, by go_num, Lib.hid (below_drewN hB.out _)⟩
      case measure => simp [intOf]; omega
    · go_wp2_with fail
      go_ret
      exact ⟨rfl, hB.out⟩
end Go.Proofs.Ytehdphkaknjlnaa
