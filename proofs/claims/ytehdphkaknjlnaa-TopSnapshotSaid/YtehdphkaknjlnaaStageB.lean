/- piece.Got, piece.Next. -/
import Derived.Test.YtehdphkaknjlnaaStageA
set_option linter.unusedVariables false
namespace Go.Proofs.Ytehdphkaknjlnaa
open Go.RowKit
/-- What of the pieces ahead of k is there. -/
def gsum (s u : Int) (bs : List Bool) : Nat → Int
  | 0 => 0
  | k + 1 => gsum s u bs k + if gb bs k = true then psize s u k else 0
theorem gsum_succ (s u : Int) (bs : List Bool) (k : Nat) : gsum s u bs (k + 1) = gsum s u bs k + if gb bs k = true then psize s u k else 0 := rfl
theorem psize_bd {s u : Int} (h : pieceOk s u) {i : Nat} (hi : (i : Int) < ceil s u) : 1 ≤ psize s u i ∧ psize s u i ≤ u := by
  have a := piece_mid h hi
  have b := mn_le u (s - i * u)
  have c := h.1.2.2.1
  unfold psize
  generalize (i : Int) * u = x at *
  omega
theorem gsum_bd {s u : Int} {n : Nat} (h : stageOk s u n) (bs : List Bool) (k : Nat) (hk : k ≤ n) : 0 ≤ gsum s u bs k ∧ gsum s u bs k ≤ 1000000 * k := by
  induction k with
  | zero => simp [gsum]
  | succ k ih =>
    have a := ih (by omega)
    have b := psize_bd h.1 (i := k) (by have := h.2; omega)
    have c := h.1.1.2.2.2
    rw [gsum_succ]
    split <;> omega
set_option maxHeartbeats 1600000 in
theorem got_bad (s u : Int) (A : Option Addr) (n c : Nat) (W : World) (h : ¬ stageOk s u n) :
    Calls Try.prog 33 #[.agg #[.int .i64 s, .int .i64 u, .slice A n c]] W fun e w' => ∃ k : Int, k ≠ 0 ∧ e = .returned (.tuple #[.int .i64 0, .int .i64 k]) ∧ Below W.heap.size W w' := by
  have bA := (Below.refl W.heap.size W).alloc (Nat.le_refl _) (.cells #[.int .i64 s, .int .i64 u, .slice A n c] 59)
  have H := Lib.hid h
  clear h
  go_enter Try.func33, Try.ntmps33
  go_wp2_with fail
  refine (scheck_bad s u A n c _ H.out).mono ?_
  rintro e w1 ⟨k, hk, rfl, b1⟩
  have B1 := belLit1 (Below.refl W.heap.size W) b1
  have e0 : (k != 0) = true := by simpa using hk
  have HK := Lib.hid hk
  clear hk b1
  go_wp2_with fail
  go_ret2
  exact ⟨k, HK.out, rfl, B1⟩
set_option maxHeartbeats 3200000 in
theorem got_ok (s u : Int) (A : Option Addr) (n c : Nat) (bs : List Bool) (W : World) (hs : Sl W W.heap.size A n (bools bs)) (h : stageOk s u n) (x : Int) (hx : gsum s u bs n = x) :
    Calls Try.prog 33 #[.agg #[.int .i64 s, .int .i64 u, .slice A n c]] W fun e w' => e = .returned (.tuple #[.int .i64 x, .int .i64 0]) ∧ Below W.heap.size W w' := by
  have H := Lib.hid h
  have HX := Lib.hid hx
  have hn := stage_len h
  clear h hx
  go_enter Try.func33, Try.ntmps33
  go_wp2_with fail
  refine (scheck_ok s u A n c _ H.out).mono ?_
  rintro e w1 ⟨rfl, b1⟩
  have B1 := Lib.hid (belLit1 (Below.refl W.heap.size W) b1)
  have S1 := slLit1 hs b1
  have hc0 := (b1.cell (p := ⟨W.heap.size, 0, none⟩) (by simp)).trans (World.cell?_alloc_at _ _ _ _ rfl)
  have hc1 := (b1.cell (p := ⟨W.heap.size, 1, none⟩) (by simp)).trans (World.cell?_alloc_at _ _ _ _ rfl)
  have hc2 := (b1.cell (p := ⟨W.heap.size, 2, none⟩) (by simp)).trans (World.cell?_alloc_at _ _ _ _ rfl)
  simp at hc0 hc1 hc2
  clear b1 hs
  go_wp2_with fail
  go_loopw [16, 5, 6, 7] (fun i v _ _ wr => ∃ k : Nat, k ≤ n ∧ i = .int .i64 k ∧ v = .int .i64 (gsum s u bs k) ∧ ∃ q, wr = w1.drewN q) (fun i _ _ _ _ => n - (intOf i).toNat)
  case atStart => exact ⟨0, Nat.zero_le _, rfl, rfl, 0, rfl⟩
  case round =>
    obtain ⟨k, hk, rfl, rfl, q, rfl⟩ := hrel
    have hg := gsum_bd H.out bs k hk
    by_cases hlt : k < n
    · obtain ⟨b, off, rfl, q1, hcb⟩ := S1.bool_at hlt
      have hn1 : (k : Int) < n := by omega
      have hk0 : (0 : Int) ≤ k := by omega
      have hp := psize_bd H.out.1 (i := k) (by have := H.out.2; omega)
      have hu := H.out.1.1.2.2.2
      have f1 : IntKind.i64.wrap (gsum s u bs k + psize s u k) = gsum s u bs k + psize s u k := IntWalk.i64_in _ ⟨by omega, by omega⟩
      have HS := Lib.hid (gsum_succ s u bs k)
      rcases hb : gb bs k with _ | _
      · rw [hb] at hcb
        have HB := Lib.hid hb
        clear hb
        go_wp2_with fail
        go_roundw
        case rel => exact ⟨k + 1, by omega, by go_num, by rw [HS.out, HB.out]; simp, _, rfl⟩
        case measure => simp [intOf]; omega
      · rw [hb] at hcb
        have HB := Lib.hid hb
        clear hb
        go_wp2_with fail
        refine (one_in s u k _ H.out.1 (by have := H.out.2; omega)).mono ?_
        rintro e w' ⟨rfl, rfl⟩
        go_wp2_with fail
        go_roundw
        case rel => exact ⟨k + 1, by omega, by go_num, by rw [HS.out, HB.out]; simp, _, rfl⟩
        case measure => simp [intOf]; omega
    · have hkn : k = n := by omega
      subst hkn
      go_wp2_with fail
      go_ret2
      refine ⟨?_, below_drewN B1.out _⟩
      rw [HX.out]; rfl
theorem next_bad (s u : Int) (A : Option Addr) (n c : Nat) (W : World) (h : ¬ stageOk s u n) :
    Calls Try.prog 35 #[.agg #[.int .i64 s, .int .i64 u, .slice A n c]] W fun e w' => ∃ k : Int, k ≠ 0 ∧ e = .returned (.tuple #[.int .i64 0, .int .i64 k]) ∧ Below W.heap.size W w' := by
  have H := Lib.hid h
  clear h
  go_enter Try.func35, Try.ntmps35
  go_wp2_with fail
  refine (scheck_bad s u A n c _ H.out).mono ?_
  rintro e w1 ⟨k, hk, rfl, b1⟩
  have B1 := belLit1 (Below.refl W.heap.size W) b1
  have e0 : (k != 0) = true := by simpa using hk
  have HK := Lib.hid hk
  clear hk b1
  go_wp2_with fail
  go_ret2
  exact ⟨k, HK.out, rfl, B1⟩
/-- The answer of piece.Next: the first piece that is not there. -/
def NextAns (bs : List Bool) (n : Nat) (x er : Int) : Prop := (er = 0 ∧ ∃ k : Nat, x = k ∧ k < n ∧ gb bs k = false) ∨ (er = 5 ∧ x = 0 ∧ ∀ i, i < n → gb bs i = true)
/-- .. and it is the first. -/
def NextFst (bs : List Bool) (n : Nat) (x er : Int) : Prop := (er = 0 ∧ ∃ k : Nat, x = k ∧ k < n ∧ gb bs k = false ∧ ∀ j, j < k → gb bs j = true) ∨ (er = 5 ∧ x = 0 ∧ ∀ i, i < n → gb bs i = true)
set_option maxHeartbeats 3200000 in
theorem next_first (s u : Int) (A : Option Addr) (n c : Nat) (bs : List Bool) (W : World) (hs : Sl W W.heap.size A n (bools bs)) (h : stageOk s u n) :
    Calls Try.prog 35 #[.agg #[.int .i64 s, .int .i64 u, .slice A n c]] W fun e w' => ∃ x er, e = .returned (.tuple #[.int .i64 x, .int .i64 er]) ∧ NextFst bs n x er ∧ Below W.heap.size W w' := by
  have H := Lib.hid h
  have hn := stage_len h
  clear h
  go_enter Try.func35, Try.ntmps35
  go_wp2_with fail
  refine (scheck_ok s u A n c _ H.out).mono ?_
  rintro e w1 ⟨rfl, b1⟩
  have B1 := Lib.hid (belLit1 (Below.refl W.heap.size W) b1)
  have S1 := slLit1 hs b1
  have hc2 := (b1.cell (p := ⟨W.heap.size, 2, none⟩) (by simp)).trans (World.cell?_alloc_at _ _ _ _ rfl)
  simp at hc2
  clear b1 hs
  go_wp2_with fail
  go_loopw [15, 5, 6] (fun i _ _ wr => ∃ k : Nat, k ≤ n ∧ i = .int .i64 k ∧ (∀ j, j < k → gb bs j = true) ∧ ∃ q, wr = w1.drewN q) (fun i _ _ _ => n - (intOf i).toNat)
  case atStart => exact ⟨0, Nat.zero_le _, rfl, fun j hj => absurd hj (Nat.not_lt_zero _), 0, rfl⟩
  case round =>
    obtain ⟨k, hk, rfl, hall, q, rfl⟩ := hrel
    have HA := Lib.hid hall
    clear hall
    by_cases hlt : k < n
    · obtain ⟨b, off, rfl, q1, hcb⟩ := S1.bool_at hlt
      have hn1 : (k : Int) < n := by omega
      have hk0 : (0 : Int) ≤ k := by omega
      rcases hb : gb bs k with _ | _
      · rw [hb] at hcb
        have HB := Lib.hid hb
        clear hb
        go_wp2_with fail
        go_ret2
        exact ⟨k, 0, rfl, .inl ⟨rfl, k, rfl, hlt, HB.out, HA.out⟩, below_drewN B1.out _⟩
      · rw [hb] at hcb
        have HB := Lib.hid hb
        clear hb
        go_wp2_with fail
        go_roundw
        case rel =>
          refine ⟨k + 1, by omega, by go_num, fun j hj => ?_, _, rfl⟩
          rcases Nat.lt_or_ge j k with h' | h'
          · exact HA.out j h'
          · obtain rfl : j = k := by omega
            exact HB.out
        case measure => simp [intOf]; omega
    · have hkn : k = n := by omega
      subst hkn
      go_wp2_with fail
      go_ret2
      exact ⟨0, 5, rfl, .inr ⟨rfl, rfl, HA.out⟩, below_drewN B1.out _⟩
theorem next_ok (s u : Int) (A : Option Addr) (n c : Nat) (bs : List Bool) (W : World) (hs : Sl W W.heap.size A n (bools bs)) (h : stageOk s u n) :
    Calls Try.prog 35 #[.agg #[.int .i64 s, .int .i64 u, .slice A n c]] W fun e w' => ∃ x er, e = .returned (.tuple #[.int .i64 x, .int .i64 er]) ∧ NextAns bs n x er ∧ Below W.heap.size W w' :=
  (next_first s u A n c bs W hs h).mono fun e w' ⟨x, er, h1, h2, h3⟩ => ⟨x, er, h1, (by
    rcases h2 with ⟨a, k, b, c, d, _⟩ | h2
    · exact .inl ⟨a, k, b, c, d⟩
    · exact .inr h2), h3⟩
end Go.Proofs.Ytehdphkaknjlnaa
