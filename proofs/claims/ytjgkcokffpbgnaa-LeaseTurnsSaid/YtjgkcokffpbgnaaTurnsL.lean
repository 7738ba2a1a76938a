/- slices.Contains and ContainsFunc of leases, as LeaseTurns calls them. -/
import Derived.Test.YtjgkcokffpbgnaaLeaseA
import Derived.Test.YtjgkcokffpbgnaaKit0
import Derived.Deep.RegionHeld3
set_option linter.unusedVariables false
namespace Go.Proofs.Ytjgkcokffpbgnaa
open Go.RowKit
set_option maxHeartbeats 1600000 in
theorem indexL (A : Option Addr) (p c B : Nat) (L : List Int) (v0 v1 v2 : Int) (W : World) (hs : Sl W B A (p * 3) (ints L)) (hB : B ≤ W.heap.size) (hp : p ≤ 1000) (k : Nat) (hk : k < p) (h0 : fd L k 0 = v0) (h1 : fd L k 1 = v1) (h2 : fd L k 2 = v2) :
    Calls Try.prog 30 #[.slice A p c, .agg #[.int .i64 v0, .int .i64 v1, .int .i64 v2]] W fun e w' => (∃ j : Int, 0 ≤ j ∧ e = .returned (.int .i64 j)) ∧ Below W.heap.size W w' := by
  obtain ⟨bx, hbx⟩ : ∃ bx : Obj, bx = .cells #[.int .i64 v0, .int .i64 v1, .int .i64 v2] 27 := ⟨_, rfl⟩
  have S0 := Lib.hid (hs.alloc hB bx)
  have B0 := Lib.hid ((Below.refl W.heap.size W).alloc (Nat.le_refl _) bx)
  have d0 : (W.alloc bx).cell? ⟨W.heap.size, 0, none⟩ = some (.int .i64 v0) := by rw [hbx]; exact World.cell?_alloc_at _ _ _ _ rfl
  have d1 : (W.alloc bx).cell? ⟨W.heap.size, 1, none⟩ = some (.int .i64 v1) := by rw [hbx]; exact World.cell?_alloc_at _ _ _ _ rfl
  have d2 : (W.alloc bx).cell? ⟨W.heap.size, 2, none⟩ = some (.int .i64 v2) := by rw [hbx]; exact World.cell?_alloc_at _ _ _ _ rfl
  have H0 := Lib.hid h0
  have H1 := Lib.hid h1
  have H2 := Lib.hid h2
  clear hs h0 h1 h2
  go_enter Try.func30, Try.ntmps30
  go_wp2_with fail
  rw [← hbx]
  obtain ⟨V, hV⟩ : ∃ V, W.alloc bx = V := ⟨_, rfl⟩
  rw [hV] at S0 B0 d0 d1 d2 ⊢
  clear hbx hV
  go_loopw [8, 5] (fun vi _ wr => ∃ i : Nat, i ≤ k ∧ vi = .int .i64 i ∧ ∃ q, wr = V.drewN q) (fun vi _ _ => k - (intOf vi).toNat)
  case atStart => exact ⟨0, Nat.zero_le _, rfl, 0, rfl⟩
  case round =>
    obtain ⟨i, hik, rfl, q, rfl⟩ := hrel
    have hi0 : (0 : Int) ≤ i := by omega
    have hip : i < p := by omega
    obtain ⟨b, off, rfl, hb, -⟩ := S0.out.int_at (k := i * 3) (by omega)
    obtain ⟨c0, c1, c2⟩ := S0.out.three hip
    have hn1 : (i : Int) < p := by omega
    by_cases he : fd L i 0 = v0 ∧ fd L i 1 = v1 ∧ fd L i 2 = v2
    · obtain ⟨e0, e1, e2⟩ := he
      rw [e0] at c0
      rw [e1] at c1
      rw [e2] at c2
      clear e0 e1 e2
      go_wp2_with fail
      go_quiet (fail)
      go_wp2_with fail
      go_ret
      exact ⟨⟨i, hi0, rfl⟩, bel_drewN (bel_drewN B0.out _) _⟩
    · have hik2 : i < k := by
        rcases Nat.lt_or_ge i k with h | h
        · exact h
        · obtain rfl : i = k := by omega
          exact absurd ⟨H0.out, H1.out, H2.out⟩ he
      have key : (v0 == fd L i 0) = false ∨ (fd L i 0 = v0 ∧ (v1 == fd L i 1) = false) ∨ (fd L i 0 = v0 ∧ fd L i 1 = v1 ∧ (v2 == fd L i 2) = false) := by
        by_cases h0 : fd L i 0 = v0
        · by_cases h1 : fd L i 1 = v1
          · exact .inr (.inr ⟨h0, h1, by simp; exact fun h => he ⟨h0, h1, h.symm⟩⟩)
          · exact .inr (.inl ⟨h0, by simp; exact fun h => h1 h.symm⟩)
        · exact .inl (by simp; exact fun h => h0 h.symm)
      generalize fd L i 0 = y0 at c0 key
      generalize fd L i 1 = y1 at c1 key
      generalize fd L i 2 = y2 at c2 key
      clear he
      rcases key with key | ⟨rfl, key⟩ | ⟨rfl, rfl, key⟩
      all_goals
        go_wp2_with fail
        go_quiet (fail)
        go_wp2_with fail
        go_roundw
        case rel => exact ⟨i + 1, by omega, by go_num, _, rfl⟩
        case measure => simp [intOf]; omega
theorem containsL (A : Option Addr) (p c B : Nat) (L : List Int) (v0 v1 v2 : Int) (W : World) (hs : Sl W B A (p * 3) (ints L)) (hB : B ≤ W.heap.size) (hp : p ≤ 1000) (k : Nat) (hk : k < p) (h0 : fd L k 0 = v0) (h1 : fd L k 1 = v1) (h2 : fd L k 2 = v2) :
    Calls Try.prog 17 #[.slice A p c, .agg #[.int .i64 v0, .int .i64 v1, .int .i64 v2]] W fun e w' => e = .returned (.bool true) ∧ Below W.heap.size W w' := by
  have S0 := Lib.hid (hs.alloc hB (.cells #[.int .i64 v0, .int .i64 v1, .int .i64 v2] 27))
  have H0 := Lib.hid h0
  have H1 := Lib.hid h1
  have H2 := Lib.hid h2
  clear hs h0 h1 h2
  go_enter Try.func17, Try.ntmps17
  go_wp2_with fail
  refine (indexL A p c B L v0 v1 v2 _ S0.out (Nat.le_trans hB (by simp)) hp k hk H0.out H1.out H2.out).mono ?_
  rintro e w1 ⟨⟨j, hj, rfl⟩, b1⟩
  have B1 : Hid (Below W.heap.size W w1) := Lib.hid (((Below.refl _ _).alloc (Nat.le_refl _) _).trans (b1.mono (by simp)))
  clear b1
  go_wp2_with fail
  go_ret
  exact ⟨rfl, B1.out⟩
set_option maxHeartbeats 1600000 in
theorem closL (A : Option Addr) (p c B bs : Nat) (L : List Int) (v0 v1 v2 : Int) (W : World) (hs : Sl W B A (p * 3) (ints L)) (hB : B ≤ W.heap.size) (hp : p ≤ 1000) (hbs : bs < W.heap.size) (hcell : W.cell? ⟨bs, 0, none⟩ = some (.slice A p c)) (k : Nat) (hk : k < p) (h0 : fd L k 0 = v0) (h1 : fd L k 1 = v1) (h2 : fd L k 2 = v2) :
    Calls Try.prog 16 #[.agg #[.int .i64 v0, .int .i64 v1, .int .i64 v2], .pointer (some ⟨bs, 0, none⟩)] W fun e w' => e = .returned (.bool false) ∧ Below W.heap.size W w' := by
  have S0 := Lib.hid (hs.alloc hB (.cells #[.int .i64 v0, .int .i64 v1, .int .i64 v2] 27))
  have H0 := Lib.hid h0
  have H1 := Lib.hid h1
  have H2 := Lib.hid h2
  have hc2 : (W.alloc (.cells #[.int .i64 v0, .int .i64 v1, .int .i64 v2] 27)).cell? ⟨bs, 0, none⟩ = some (.slice A p c) := (World.cell?_alloc_lt W _ _ hbs).trans hcell
  clear hs h0 h1 h2 hcell
  go_enter Try.func16, Try.ntmps16
  go_wp2_with fail
  refine (containsL A p c B L v0 v1 v2 _ S0.out (Nat.le_trans hB (by simp)) hp k hk H0.out H1.out H2.out).mono ?_
  rintro e w1 ⟨rfl, b1⟩
  have B1 : Hid (Below W.heap.size W w1) := Lib.hid (((Below.refl _ _).alloc (Nat.le_refl _) _).trans (b1.mono (by simp)))
  clear b1 hc2
  go_wp2_with fail
  go_ret
  exact ⟨rfl, B1.out⟩
set_option maxHeartbeats 1600000 in
theorem noneL (A T : Option Addr) (p c m d bs : Nat) (L M : List Int) (W : World) (hs : Sl W W.heap.size A (p * 3) (ints L)) (ht : Sl W W.heap.size T (m * 3) (ints M)) (hp : p ≤ 1000) (hm : m ≤ 1000) (hbs : bs < W.heap.size) (hcell : W.cell? ⟨bs, 0, none⟩ = some (.slice A p c)) (hall : ∀ j, j < m → ∃ k, k < p ∧ ∀ q, q < 3 → fd L k q = fd M j q) :
    Calls Try.prog 15 #[.slice T m d, .func (.func 16) #[] #[.pointer (some ⟨bs, 0, none⟩)]] W fun e w' => e = .returned (.bool false) ∧ Below W.heap.size W w' := by
  have HS := Lib.hid hs
  have HT := Lib.hid ht
  have HA := Lib.hid hall
  have HC := Lib.hid hcell
  clear hs ht hall hcell
  have IF : Hid (Calls Try.prog 29 #[.slice T m d, .func (.func 16) #[] #[.pointer (some ⟨bs, 0, none⟩)]] W fun e w' => e = .returned (.int .i64 (-1)) ∧ Below W.heap.size W w') := by
    show Calls _ _ _ _ _
    go_enter Try.func29, Try.ntmps29
    go_wp2_with fail
    go_loopw [8] (fun vi wr => ∃ i : Nat, i ≤ m ∧ vi = .int .i64 i ∧ Below W.heap.size W wr) (fun vi _ => m - (intOf vi).toNat)
    case atStart => exact ⟨0, Nat.zero_le _, rfl, Below.refl _ _⟩
    case round =>
      obtain ⟨i, hi, rfl, hb⟩ := hrel
      have HB := Lib.hid hb
      have hi0 : (0 : Int) ≤ i := by omega
      by_cases hlt : i < m
      · obtain ⟨b, off, rfl, hbl, -⟩ := HT.out.int_at (k := i * 3) (by omega)
        obtain ⟨e0, e1, e2⟩ := (HT.out.below hb).three hlt
        have hn1 : (i : Int) < m := by omega
        have SS := Lib.hid ((HS.out.below hb))
        obtain ⟨k, hk, hq⟩ := HA.out i hlt
        have Q0 := Lib.hid (hq 0 (by omega))
        have Q1 := Lib.hid (hq 1 (by omega))
        have Q2 := Lib.hid (hq 2 (by omega))
        have cc : Hid (wr.cell? ⟨bs, 0, none⟩ = some (.slice A p c)) := Lib.hid ((hb.cell (p := ⟨bs, 0, none⟩) hbs).trans HC.out)
        clear hb hq
        go_wp2_with fail
        refine (closL A p c W.heap.size bs L _ _ _ wr SS.out HB.out.size hp (Nat.lt_of_lt_of_le hbs HB.out.size) cc.out k hk Q0.out Q1.out Q2.out).mono ?_
        rintro e w1 ⟨rfl, b1⟩
        have B1 := Lib.hid (HB.out.trans (b1.mono HB.out.size))
        clear b1 e0 e1 e2
        go_wp2_with fail
        go_roundw
        case rel => exact ⟨i + 1, by omega, by go_num, B1.out⟩
        case measure => simp [intOf]; omega
      · have hn1 : ¬ (i : Int) < m := by omega
        clear hb
        go_wp2_with fail
        go_ret
        exact ⟨rfl, HB.out⟩
  go_enter Try.func15, Try.ntmps15
  go_wp2_with fail
  refine IF.out.mono ?_
  rintro e w1 ⟨rfl, b1⟩
  go_wp2_with fail
  go_ret
  exact ⟨rfl, b1⟩
end Go.Proofs.Ytjgkcokffpbgnaa
