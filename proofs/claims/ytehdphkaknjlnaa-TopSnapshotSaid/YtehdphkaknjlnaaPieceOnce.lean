/- PieceOnce: Put is idempotent and commutative, and the amount present never decreases. -/
import Derived.Test.YtehdphkaknjlnaaStageB
import Derived.Test.YtehdphkaknjlnaaStageP
import Derived.Test.YtehdphkaknjlnaaEqualB
set_option linter.unusedVariables false
namespace Go.Proofs.Ytehdphkaknjlnaa
open Go.RowKit
/-- A variable of three cells, made and stored into. -/
def sbox (w : World) (t : TypeId) (x y z : Value) : World := w.alloc (.cells #[x, y, z] t)
section
variable (w : World) (t : TypeId) (x y z : Value)
theorem sbox_3 : VBox (sbox w t x y z) w.heap.size x y z := VBox.made w _ _ _ t
theorem sbox_b : Below w.heap.size w (sbox w t x y z) := (Below.refl _ _).alloc (Nat.le_refl _) _
theorem sbox_s : (sbox w t x y z).heap.size = w.heap.size + 1 := by simp [sbox]
end
/-- Three cells stored into a box. -/
def sput (w : World) (g : Nat) (x y z : Value) : World := ((w.setCell ⟨g, 0, none⟩ x).setCell ⟨g, 1, none⟩ y).setCell ⟨g, 2, none⟩ z
theorem sput_b (w : World) (g : Nat) (x y z : Value) : Below g w (sput w g x y z) := (((Below.refl _ _).setCell (p := ⟨g, 0, none⟩) (Nat.le_refl _) x).setCell (p := ⟨g, 1, none⟩) (Nat.le_refl _) y).setCell (p := ⟨g, 2, none⟩) (Nat.le_refl _) z
theorem sput_s (w : World) (g : Nat) (x y z : Value) : (sput w g x y z).heap.size = w.heap.size := by simp [sput]
theorem sput_sl {w : World} {g b : Nat} {n : Nat} {xs : List Value} {x y z : Value} (h : Sl w w.heap.size (some ⟨b, 0, none⟩) n xs) (hb : b ≠ g) : Sl (sput w g x y z) (sput w g x y z).heap.size (some ⟨b, 0, none⟩) n xs := by
  refine ⟨h.1, fun hn => ?_⟩
  obtain ⟨b', o', e, h1, h2⟩ := h.2 hn
  injection e with e
  injection e with e1 e2
  subst e1 e2
  refine ⟨b, 0, rfl, by rw [sput_s]; exact h1, fun i v hv => ?_⟩
  unfold sput
  rw [World.cell?_setCell_other _ _ _ _ (by simp [hb]), World.cell?_setCell_other _ _ _ _ (by simp [hb]), World.cell?_setCell_other _ _ _ _ (by simp [hb])]
  exact h2 i v hv
theorem gset_self (bs : List Bool) (i : Nat) : (bs.set i true).set i true = bs.set i true := List.set_set _
theorem gset_comm (bs : List Bool) (i j : Nat) : (bs.set i true).set j true = (bs.set j true).set i true := by
  by_cases h : i = j
  · subst h; rfl
  · exact List.set_comm _ _ h
theorem gb_set (bs : List Bool) (i k : Nat) (h : gb bs k = true) : gb (bs.set i true) k = true := by
  unfold gb at *
  rw [List.getD_eq_getElem?_getD] at *
  rw [List.getElem?_set]
  split
  · subst_vars
    split
    · rfl
    · rename_i h'
      rw [List.getElem?_eq_none (by omega)] at h
      simp at h
  · exact h
theorem gsum_mono {s u : Int} {n : Nat} (h : stageOk s u n) {bs cs : List Bool} (hb : ∀ k, gb bs k = true → gb cs k = true) (k : Nat) (hk : k ≤ n) : gsum s u bs k ≤ gsum s u cs k := by
  induction k with
  | zero => exact Int.le_refl _
  | succ k ih =>
    have a := ih (by omega)
    have b := psize_bd h.1 (i := k) (by have := h.2; omega)
    rw [gsum_succ, gsum_succ]
    by_cases hc : gb bs k = true
    · rw [if_pos hc, if_pos (hb k hc)]; omega
    · rw [if_neg hc]; split <;> omega
theorem gsum_part {s u : Int} {n : Nat} (h : stageOk s u n) {bs : List Bool} (hb : ∀ k, k < n → gb bs k = true) (k : Nat) (hk : k < n) : gsum s u bs k = (k : Int) * u := by
  induction k with
  | zero => simp [gsum]
  | succ k ih =>
    have a := piece_mid h.1 (i := k + 1) (by have := h.2; omega)
    rw [gsum_succ, ih (by omega), if_pos (hb k (by omega))]
    have e : ((k + 1 : Nat) : Int) * u = (k : Int) * u + u := by rw [show ((k + 1 : Nat) : Int) = (k : Int) + 1 by omega, Int.add_mul, Int.one_mul]
    rw [e] at a ⊢
    unfold psize mn
    rw [if_neg (by omega)]
theorem gsum_full {s u : Int} {n : Nat} (h : stageOk s u n) {bs : List Bool} (hb : ∀ k, k < n → gb bs k = true) : gsum s u bs n = s := by
  have lo := ceil_lo (d := s) h.1.1.2.2.1
  have h0 := h.1.1.1
  rw [← h.2] at lo
  rcases n with _ | k
  · have : gsum s u bs 0 = 0 := rfl
    simp at lo
    omega
  · have a := piece_mid h.1 (i := k) (by have := h.2; omega)
    rw [gsum_succ, gsum_part h hb k (by omega), if_pos (hb k (by omega))]
    have e : ((k + 1 : Nat) : Int) * u = (k : Int) * u + u := by rw [show ((k + 1 : Nat) : Int) = (k : Int) + 1 by omega, Int.add_mul, Int.one_mul]
    rw [e] at lo
    unfold psize mn
    split <;> omega
set_option maxRecDepth 100000 in
set_option maxHeartbeats 12800000 in
theorem pieceOnce_walk (s u : Int) (A : Option Addr) (n c : Nat) (bs : List Bool) (i j : Int) (W : World) (w0 : Sl W W.heap.size A n (bools bs) ∧ n ≤ 9223372036854775807) (_ : -9223372036854775808 ≤ i ∧ i ≤ 9223372036854775807) (_ : -9223372036854775808 ≤ j ∧ j ≤ 9223372036854775807) :
    Calls Try.prog 11 #[.agg #[.int .i64 s, .int .i64 u, .slice A n c], .int .i64 i, .int .i64 j] W fun e w' => e = .returned (.bool true) ∧ Below W.heap.size W w' := by
  obtain ⟨hs, hnn⟩ := w0
  have X0 := VBox.made W (.int .i64 s) (.int .i64 u) (.slice A n c) 59
  have b0 := (Below.refl W.heap.size W).alloc (Nat.le_refl _) (.cells #[.int .i64 s, .int .i64 u, .slice A n c] 59)
  have s0 : Sl (W.alloc (.cells #[.int .i64 s, .int .i64 u, .slice A n c] 59)) (W.alloc (.cells #[.int .i64 s, .int .i64 u, .slice A n c] 59)).heap.size A n (bools bs) := slMore hs _
  have z0 : W.heap.size < (W.alloc (.cells #[.int .i64 s, .int .i64 u, .slice A n c] 59)).heap.size := by simp
  clear hs
  go_enter Try.func11, Try.ntmps11
  go_wp2_with fail
  refine (got_ok 7 3 _ 3 3 [true, false, true] _ (Sl.built_ _ (bools [true, false, true]) 4 _ (by simp) rfl) ⟨⟨⟨by omega, by omega, by omega, by omega⟩, by decide⟩, by decide⟩ 4 (by decide)).mono ?_
  rintro e w1 ⟨rfl, bb1⟩
  have hal : Below (W.alloc (.cells #[.int .i64 s, .int .i64 u, .slice A n c] 59)).heap.size (W.alloc (.cells #[.int .i64 s, .int .i64 u, .slice A n c] 59)) w1 := ((Below.refl _ _).alloc (Nat.le_refl _) _).trans (bb1.mono (by simp))
  have B := belLit0 b0 hal
  have S := slLit0 s0 hal
  have X := X0.on hal z0
  have Z : W.heap.size < w1.heap.size := Nat.lt_of_lt_of_le z0 hal.size
  clear bb1 hal b0 s0 X0 z0
  have X' := Lib.hid X
  obtain ⟨x0, x1, x2, xf⟩ := X
  by_cases hok : stageOk s u n
  case neg =>
    have HO := Lib.hid hok
    clear hok
    go_wp2_with fail
    refine (got_bad s u A n c _ HO.out).mono ?_
    rintro e w2 ⟨k, hk, rfl, bb2⟩
    have B2 := belLit0 B bb2
    have hk' : (k != 0) = true := by simpa using hk
    clear hk S X' x0 x1 x2 xf B bb2
    go_wp2_with fail
    go_ret
    exact ⟨rfl, B2⟩
  have HO := Lib.hid hok
  have n200 := stage_len hok
  clear hok
  have hlen := Lib.hid S.bool_len
  go_wp2_with fail
  refine (got_ok s u A n c bs _ S HO.out _ rfl).mono ?_
  rintro e w2 ⟨rfl, bb2⟩
  replace B := belLit0 B bb2
  replace S := slLit0 S bb2
  have X := X'.out.on bb2 Z
  replace Z : W.heap.size < w2.heap.size := Nat.lt_of_lt_of_le Z bb2.size
  clear x0 x1 x2 xf bb2 X'
  have X' := Lib.hid X
  obtain ⟨x0, x1, x2, xf⟩ := X
  by_cases hn0 : n = 0
  case pos =>
    have e0 : ((n : Int) == 0) = true := by simp; omega
    have e1 : gsum s u bs n = 0 := by rw [hn0]; rfl
    rw [e1]
    clear S hn0 e1
    go_wp2_with fail
    go_ret
    exact ⟨rfl, B⟩
  have e0 : ((n : Int) == 0) = false := by simp; omega
  have np : 1 ≤ (n : Int) := by omega
  clear hn0
  have i0 := within_lo i n np
  have i1 := within_hi i n np
  have j0 := within_lo j n np
  have j1 := within_hi j n np
  obtain ⟨I, hI⟩ : ∃ I : Nat, within i n = I := ⟨(within i n).toNat, by omega⟩
  obtain ⟨J, hJ⟩ : ∃ J : Nat, within j n = J := ⟨(within j n).toNat, by omega⟩
  have HI := Lib.hid hI
  have HJ := Lib.hid hJ
  rw [hI] at i0 i1
  rw [hJ] at j0 j1
  have i2 : I < n := by omega
  have j2 : J < n := by omega
  have NN : (n : Int) ≤ 9223372036854775807 := by omega
  obtain ⟨was, hwas⟩ : ∃ x, gsum s u bs n = x := ⟨_, rfl⟩
  have HW := Lib.hid hwas
  rw [hwas]
  have hm := gsum_mono HO.out (bs := bs) (cs := (bs.set I true).set J true) (fun k h => gb_set _ _ _ (gb_set _ _ _ h)) n (Nat.le_refl _)
  rw [hwas] at hm
  have HM := Lib.hid hm
  clear hI hJ i0 i1 j0 j1 hwas hm
  have BH := Lib.hid B
  have SH := Lib.hid S
  clear B S
  go_wp2_with fail
  go_quiet ((go_at_call 14; exact Calls.quiet_of_same ((within_any _ n _ np NN).mono fun _ _ ⟨h1, h2⟩ => ⟨h1, h2.symm⟩)))
  go_wp2_with fail
  rw [HI.out, HJ.out]
  have B := below_drewN BH.out nq
  have S_s : Hid (Sl (w2.drewN nq) (w2.drewN nq).heap.size A n (bools bs)) := Lib.hid (SH.out.drewN nq)
  have X_s := Lib.hid (X'.out.on (below_drewN (Below.refl w2.heap.size w2) nq) Z)
  replace Z : W.heap.size < (w2.drewN nq).heap.size := Z
  clear SH X' x0 x1 x2 xf BH
  generalize w2.drewN nq = w3 at *
  refine (put_ok s u A n c (bs) I _ S_s.out HO.out i2).mono ?_
  rintro e w4 ⟨A4, c4, rfl, sd, ld, bb, g4, rfl, hg⟩
  have hall : Below w3.heap.size w3 (sbox w4 59 (.int .i64 s) (.int .i64 u) (.slice (some ⟨g4, 0, none⟩) n c4)) := bb.trans ((sbox_b w4 _ _ _ _).mono bb.size)
  have hsz : (sbox w4 59 (.int .i64 s) (.int .i64 u) (.slice (some ⟨g4, 0, none⟩) n c4)).heap.size = w4.heap.size + 1 := sbox_s _ _ _ _ _
  have hV : Hid ((sbox w4 59 (.int .i64 s) (.int .i64 u) (.slice (some ⟨g4, 0, none⟩) n c4)) = (w4.alloc (.cells #[.int .i64 s, .int .i64 u, .slice (some ⟨g4, 0, none⟩) n c4] 59))) := Lib.hid rfl
  have Y_a := Lib.hid (sbox_3 w4 59 (.int .i64 s) (.int .i64 u) (.slice (some ⟨g4, 0, none⟩) n c4))
  have T_a := Lib.hid (slLit0 sd (sbox_b w4 59 (.int .i64 s) (.int .i64 u) (.slice (some ⟨g4, 0, none⟩) n c4)))
  have Y_s := Lib.hid (X_s.out.on hall Z)
  have T_s := Lib.hid (slLit0 S_s.out hall)
  have B' := belLit0 B hall
  have lb := Y_a.out
  simp only [sbox] at lb
  obtain ⟨l00, l01, l02, l0f⟩ := lb
  clear X_s S_s B
  go_wp2_with fail
  rw [← hV.out]
  clear hV  l00 l01 l02 l0f
  have hsw := bb.size
  have Z' : W.heap.size < (sbox w4 59 (.int .i64 s) (.int .i64 u) (.slice (some ⟨g4, 0, none⟩) n c4)).heap.size := by rw [hsz]; omega
  clear Z  sd
  have Z'_a : w4.heap.size < (sbox w4 59 (.int .i64 s) (.int .i64 u) (.slice (some ⟨g4, 0, none⟩) n c4)).heap.size := by rw [hsz]; omega
  clear hsz bb hall hsw
  generalize (sbox w4 59 (.int .i64 s) (.int .i64 u) (.slice (some ⟨g4, 0, none⟩) n c4)) = w5 at *
  have X_s := Y_s
  have S_s := T_s
  have Z := Z'
  have X_a := Y_a
  have S_a := T_a
  have Z_a := Z'_a
  have B := B'
  clear B' Y_s T_s Z' Y_a T_a Z'_a
  refine (put_ok s u (some ⟨g4, 0, none⟩) n c4 ((bs).set I true) I _ S_a.out HO.out i2).mono ?_
  rintro e w6 ⟨A6, c6, rfl, sd, ld, bb, g6, rfl, hg⟩
  have hall : Below w5.heap.size w5 (sbox w6 59 (.int .i64 s) (.int .i64 u) (.slice (some ⟨g6, 0, none⟩) n c6)) := bb.trans ((sbox_b w6 _ _ _ _).mono bb.size)
  have hsz : (sbox w6 59 (.int .i64 s) (.int .i64 u) (.slice (some ⟨g6, 0, none⟩) n c6)).heap.size = w6.heap.size + 1 := sbox_s _ _ _ _ _
  have hV : Hid ((sbox w6 59 (.int .i64 s) (.int .i64 u) (.slice (some ⟨g6, 0, none⟩) n c6)) = (w6.alloc (.cells #[.int .i64 s, .int .i64 u, .slice (some ⟨g6, 0, none⟩) n c6] 59))) := Lib.hid rfl
  have Y_b := Lib.hid (sbox_3 w6 59 (.int .i64 s) (.int .i64 u) (.slice (some ⟨g6, 0, none⟩) n c6))
  have T_b := Lib.hid (slLit0 sd (sbox_b w6 59 (.int .i64 s) (.int .i64 u) (.slice (some ⟨g6, 0, none⟩) n c6)))
  have Y_s := Lib.hid (X_s.out.on hall Z)
  have T_s := Lib.hid (slLit0 S_s.out hall)
  have Y_a := Lib.hid (X_a.out.on hall Z_a)
  have T_a := Lib.hid (slLit0 S_a.out hall)
  have B' := belLit0 B hall
  have lb := Y_a.out
  simp only [sbox] at lb
  obtain ⟨l00, l01, l02, l0f⟩ := lb
  clear X_s S_s X_a S_a B
  go_wp2_with fail
  rw [← hV.out]
  clear hV  l00 l01 l02 l0f
  have hsw := bb.size
  have Z' : W.heap.size < (sbox w6 59 (.int .i64 s) (.int .i64 u) (.slice (some ⟨g6, 0, none⟩) n c6)).heap.size := by rw [hsz]; omega
  have Z'_a : w4.heap.size < (sbox w6 59 (.int .i64 s) (.int .i64 u) (.slice (some ⟨g6, 0, none⟩) n c6)).heap.size := by rw [hsz]; omega
  clear Z Z_a sd
  have Z'_b : w6.heap.size < (sbox w6 59 (.int .i64 s) (.int .i64 u) (.slice (some ⟨g6, 0, none⟩) n c6)).heap.size := by rw [hsz]; omega
  clear hsz bb hall hsw
  generalize (sbox w6 59 (.int .i64 s) (.int .i64 u) (.slice (some ⟨g6, 0, none⟩) n c6)) = w7 at *
  have X_s := Y_s
  have S_s := T_s
  have Z := Z'
  have X_a := Y_a
  have S_a := T_a
  have Z_a := Z'_a
  have X_b := Y_b
  have S_b := T_b
  have Z_b := Z'_b
  have B := B'
  clear B' Y_s T_s Z' Y_a T_a Z'_a Y_b T_b Z'_b
  refine (put_ok s u (some ⟨g4, 0, none⟩) n c4 ((bs).set I true) J _ S_a.out HO.out j2).mono ?_
  rintro e w8 ⟨A8, c8, rfl, sd, ld, bb, g8, rfl, hg⟩
  have hall : Below w7.heap.size w7 (sbox w8 59 (.int .i64 s) (.int .i64 u) (.slice (some ⟨g8, 0, none⟩) n c8)) := bb.trans ((sbox_b w8 _ _ _ _).mono bb.size)
  have hsz : (sbox w8 59 (.int .i64 s) (.int .i64 u) (.slice (some ⟨g8, 0, none⟩) n c8)).heap.size = w8.heap.size + 1 := sbox_s _ _ _ _ _
  have hV : Hid ((sbox w8 59 (.int .i64 s) (.int .i64 u) (.slice (some ⟨g8, 0, none⟩) n c8)) = (w8.alloc (.cells #[.int .i64 s, .int .i64 u, .slice (some ⟨g8, 0, none⟩) n c8] 59))) := Lib.hid rfl
  have Y_c := Lib.hid (sbox_3 w8 59 (.int .i64 s) (.int .i64 u) (.slice (some ⟨g8, 0, none⟩) n c8))
  have T_c := Lib.hid (slLit0 sd (sbox_b w8 59 (.int .i64 s) (.int .i64 u) (.slice (some ⟨g8, 0, none⟩) n c8)))
  have Y_s := Lib.hid (X_s.out.on hall Z)
  have T_s := Lib.hid (slLit0 S_s.out hall)
  have Y_a := Lib.hid (X_a.out.on hall Z_a)
  have T_a := Lib.hid (slLit0 S_a.out hall)
  have Y_b := Lib.hid (X_b.out.on hall Z_b)
  have T_b := Lib.hid (slLit0 S_b.out hall)
  have B' := belLit0 B hall
  have lb := Y_s.out
  simp only [sbox] at lb
  obtain ⟨l00, l01, l02, l0f⟩ := lb
  clear X_s S_s X_a S_a X_b S_b B
  go_wp2_with fail
  rw [← hV.out]
  clear hV  l00 l01 l02 l0f
  have hsw := bb.size
  have Z' : W.heap.size < (sbox w8 59 (.int .i64 s) (.int .i64 u) (.slice (some ⟨g8, 0, none⟩) n c8)).heap.size := by rw [hsz]; omega
  have Z'_a : w4.heap.size < (sbox w8 59 (.int .i64 s) (.int .i64 u) (.slice (some ⟨g8, 0, none⟩) n c8)).heap.size := by rw [hsz]; omega
  have Z'_b : w6.heap.size < (sbox w8 59 (.int .i64 s) (.int .i64 u) (.slice (some ⟨g8, 0, none⟩) n c8)).heap.size := by rw [hsz]; omega
  clear Z Z_a Z_b sd
  have Z'_c : w8.heap.size < (sbox w8 59 (.int .i64 s) (.int .i64 u) (.slice (some ⟨g8, 0, none⟩) n c8)).heap.size := by rw [hsz]; omega
  clear hsz bb hall hsw
  generalize (sbox w8 59 (.int .i64 s) (.int .i64 u) (.slice (some ⟨g8, 0, none⟩) n c8)) = w9 at *
  have X_s := Y_s
  have S_s := T_s
  have Z := Z'
  have X_a := Y_a
  have S_a := T_a
  have Z_a := Z'_a
  have X_b := Y_b
  have S_b := T_b
  have Z_b := Z'_b
  have X_c := Y_c
  have S_c := T_c
  have Z_c := Z'_c
  have B := B'
  clear B' Y_s T_s Z' Y_a T_a Z'_a Y_b T_b Z'_b Y_c T_c Z'_c
  refine (put_ok s u A n c (bs) J _ S_s.out HO.out j2).mono ?_
  rintro e w10 ⟨A10, c10, rfl, sd, ld, bb, g10, rfl, hg⟩
  have hall : Below w9.heap.size w9 (sbox w10 59 (.int .i64 s) (.int .i64 u) (.slice (some ⟨g10, 0, none⟩) n c10)) := bb.trans ((sbox_b w10 _ _ _ _).mono bb.size)
  have hsz : (sbox w10 59 (.int .i64 s) (.int .i64 u) (.slice (some ⟨g10, 0, none⟩) n c10)).heap.size = w10.heap.size + 1 := sbox_s _ _ _ _ _
  have hV : Hid ((sbox w10 59 (.int .i64 s) (.int .i64 u) (.slice (some ⟨g10, 0, none⟩) n c10)) = (w10.alloc (.cells #[.int .i64 s, .int .i64 u, .slice (some ⟨g10, 0, none⟩) n c10] 59))) := Lib.hid rfl
  have Y_d := Lib.hid (sbox_3 w10 59 (.int .i64 s) (.int .i64 u) (.slice (some ⟨g10, 0, none⟩) n c10))
  have T_d := Lib.hid (slLit0 sd (sbox_b w10 59 (.int .i64 s) (.int .i64 u) (.slice (some ⟨g10, 0, none⟩) n c10)))
  have Y_s := Lib.hid (X_s.out.on hall Z)
  have T_s := Lib.hid (slLit0 S_s.out hall)
  have U_s := Lib.hid ((slLit0 S_s.out bb).below (sbox_b w10 59 (.int .i64 s) (.int .i64 u) (.slice (some ⟨g10, 0, none⟩) n c10)))
  have ZD_s : W.heap.size < w10.heap.size := Nat.lt_of_lt_of_le Z bb.size
  have Y_a := Lib.hid (X_a.out.on hall Z_a)
  have T_a := Lib.hid (slLit0 S_a.out hall)
  have U_a := Lib.hid ((slLit0 S_a.out bb).below (sbox_b w10 59 (.int .i64 s) (.int .i64 u) (.slice (some ⟨g10, 0, none⟩) n c10)))
  have ZD_a : w4.heap.size < w10.heap.size := Nat.lt_of_lt_of_le Z_a bb.size
  have Y_b := Lib.hid (X_b.out.on hall Z_b)
  have T_b := Lib.hid (slLit0 S_b.out hall)
  have U_b := Lib.hid ((slLit0 S_b.out bb).below (sbox_b w10 59 (.int .i64 s) (.int .i64 u) (.slice (some ⟨g10, 0, none⟩) n c10)))
  have ZD_b : w6.heap.size < w10.heap.size := Nat.lt_of_lt_of_le Z_b bb.size
  have Y_c := Lib.hid (X_c.out.on hall Z_c)
  have T_c := Lib.hid (slLit0 S_c.out hall)
  have U_c := Lib.hid ((slLit0 S_c.out bb).below (sbox_b w10 59 (.int .i64 s) (.int .i64 u) (.slice (some ⟨g10, 0, none⟩) n c10)))
  have ZD_c : w8.heap.size < w10.heap.size := Nat.lt_of_lt_of_le Z_c bb.size
  have B' := belLit0 B hall
  have lb := Y_d.out
  simp only [sbox] at lb
  obtain ⟨l00, l01, l02, l0f⟩ := lb
  clear X_s S_s X_a S_a X_b S_b X_c S_c B
  go_wp2_with fail
  rw [← hV.out]
  clear hV  l00 l01 l02 l0f
  have hsw := bb.size
  have Z' : W.heap.size < (sbox w10 59 (.int .i64 s) (.int .i64 u) (.slice (some ⟨g10, 0, none⟩) n c10)).heap.size := by rw [hsz]; omega
  have Z'_a : w4.heap.size < (sbox w10 59 (.int .i64 s) (.int .i64 u) (.slice (some ⟨g10, 0, none⟩) n c10)).heap.size := by rw [hsz]; omega
  have Z'_b : w6.heap.size < (sbox w10 59 (.int .i64 s) (.int .i64 u) (.slice (some ⟨g10, 0, none⟩) n c10)).heap.size := by rw [hsz]; omega
  have Z'_c : w8.heap.size < (sbox w10 59 (.int .i64 s) (.int .i64 u) (.slice (some ⟨g10, 0, none⟩) n c10)).heap.size := by rw [hsz]; omega
  clear Z Z_a Z_b Z_c sd
  have Z'_d : w10.heap.size < (sbox w10 59 (.int .i64 s) (.int .i64 u) (.slice (some ⟨g10, 0, none⟩) n c10)).heap.size := by rw [hsz]; omega
  clear hsz bb hall hsw
  generalize (sbox w10 59 (.int .i64 s) (.int .i64 u) (.slice (some ⟨g10, 0, none⟩) n c10)) = w11 at *
  have X_s := Y_s
  have S_s := T_s
  have Z := Z'
  have X_a := Y_a
  have S_a := T_a
  have Z_a := Z'_a
  have X_b := Y_b
  have S_b := T_b
  have Z_b := Z'_b
  have X_c := Y_c
  have S_c := T_c
  have Z_c := Z'_c
  have X_d := Y_d
  have S_d := T_d
  have Z_d := Z'_d
  have B := B'
  clear B' Y_s T_s Z' Y_a T_a Z'_a Y_b T_b Z'_b Y_c T_c Z'_c Y_d T_d Z'_d
  refine (put_ok s u (some ⟨g10, 0, none⟩) n c10 ((bs).set J true) I _ S_d.out HO.out i2).mono ?_
  rintro e w12 ⟨A12, c12, rfl, sd, ld, bb, g12, rfl, hg⟩
  have Zd := Z_d
  have hsw := bb.size
  have hall : Below w10.heap.size w11 (sput w12 w10.heap.size (.int .i64 s) (.int .i64 u) (.slice (some ⟨g12, 0, none⟩) n c12)) := (bb.mono (by omega)).trans (sput_b w12 w10.heap.size _ _ _)
  have hsz : (sput w12 w10.heap.size (.int .i64 s) (.int .i64 u) (.slice (some ⟨g12, 0, none⟩) n c12)).heap.size = w12.heap.size := sput_s _ _ _ _ _
  have hV : Hid ((sput w12 w10.heap.size (.int .i64 s) (.int .i64 u) (.slice (some ⟨g12, 0, none⟩) n c12)) = (((w12.setCell ⟨w10.heap.size, 0, none⟩ (.int .i64 s)).setCell ⟨w10.heap.size, 1, none⟩ (.int .i64 u)).setCell ⟨w10.heap.size, 2, none⟩ (.slice (some ⟨g12, 0, none⟩) n c12))) := Lib.hid rfl
  have V0 := X_d.out.on bb Z_d
  have V1 := V0.set0 (v := .int .i64 s)
  have V2 := V1.set1 (v := .int .i64 u)
  have Y_d : Hid (VBox (sput w12 w10.heap.size (.int .i64 s) (.int .i64 u) (.slice (some ⟨g12, 0, none⟩) n c12)) w10.heap.size (.int .i64 s) (.int .i64 u) (.slice (some ⟨g12, 0, none⟩) n c12)) := Lib.hid V2.set2
  have T_d : Hid (Sl (sput w12 w10.heap.size (.int .i64 s) (.int .i64 u) (.slice (some ⟨g12, 0, none⟩) n c12)) (sput w12 w10.heap.size (.int .i64 s) (.int .i64 u) (.slice (some ⟨g12, 0, none⟩) n c12)).heap.size (some ⟨g12, 0, none⟩) n (bools (((bs).set J true).set I true))) := Lib.hid (sput_sl sd (by omega))
  obtain ⟨m0, m1, m2, mf⟩ := V0
  obtain ⟨n0, n1, n2, nf⟩ := V1
  obtain ⟨o0, o1, o2, of⟩ := V2
  have Y_s := Lib.hid ((X_s.out.on bb Z).on (sput_b w12 w10.heap.size (.int .i64 s) (.int .i64 u) (.slice (some ⟨g12, 0, none⟩) n c12)) ZD_s)
  have T_s := Lib.hid ((U_s.out.below hall).more (B' := (sput w12 w10.heap.size (.int .i64 s) (.int .i64 u) (.slice (some ⟨g12, 0, none⟩) n c12)).heap.size) (by rw [hsz]; omega))
  have Y_a := Lib.hid ((X_a.out.on bb Z_a).on (sput_b w12 w10.heap.size (.int .i64 s) (.int .i64 u) (.slice (some ⟨g12, 0, none⟩) n c12)) ZD_a)
  have T_a := Lib.hid ((U_a.out.below hall).more (B' := (sput w12 w10.heap.size (.int .i64 s) (.int .i64 u) (.slice (some ⟨g12, 0, none⟩) n c12)).heap.size) (by rw [hsz]; omega))
  have Y_b := Lib.hid ((X_b.out.on bb Z_b).on (sput_b w12 w10.heap.size (.int .i64 s) (.int .i64 u) (.slice (some ⟨g12, 0, none⟩) n c12)) ZD_b)
  have T_b := Lib.hid ((U_b.out.below hall).more (B' := (sput w12 w10.heap.size (.int .i64 s) (.int .i64 u) (.slice (some ⟨g12, 0, none⟩) n c12)).heap.size) (by rw [hsz]; omega))
  have Y_c := Lib.hid ((X_c.out.on bb Z_c).on (sput_b w12 w10.heap.size (.int .i64 s) (.int .i64 u) (.slice (some ⟨g12, 0, none⟩) n c12)) ZD_c)
  have T_c := Lib.hid ((U_c.out.below hall).more (B' := (sput w12 w10.heap.size (.int .i64 s) (.int .i64 u) (.slice (some ⟨g12, 0, none⟩) n c12)).heap.size) (by rw [hsz]; omega))
  have B' := B.trans ((bb.mono B.size).trans ((sput_b w12 w10.heap.size (.int .i64 s) (.int .i64 u) (.slice (some ⟨g12, 0, none⟩) n c12)).mono (by omega)))
  have lb := Y_c.out
  simp only [sput] at lb
  obtain ⟨l00, l01, l02, l0f⟩ := lb
  clear X_s S_s X_a S_a X_b S_b X_c S_c X_d S_d B
  go_wp2_with fail
  rw [← hV.out]
  clear hV mf nf of m0 m1 m2 n0 n1 n2 o0 o1 o2 Zd l00 l01 l02 l0f
  have Z' : W.heap.size < (sput w12 w10.heap.size (.int .i64 s) (.int .i64 u) (.slice (some ⟨g12, 0, none⟩) n c12)).heap.size := by rw [hsz]; omega
  have Z'_a : w4.heap.size < (sput w12 w10.heap.size (.int .i64 s) (.int .i64 u) (.slice (some ⟨g12, 0, none⟩) n c12)).heap.size := by rw [hsz]; omega
  have Z'_b : w6.heap.size < (sput w12 w10.heap.size (.int .i64 s) (.int .i64 u) (.slice (some ⟨g12, 0, none⟩) n c12)).heap.size := by rw [hsz]; omega
  have Z'_c : w8.heap.size < (sput w12 w10.heap.size (.int .i64 s) (.int .i64 u) (.slice (some ⟨g12, 0, none⟩) n c12)).heap.size := by rw [hsz]; omega
  have Z'_d : w10.heap.size < (sput w12 w10.heap.size (.int .i64 s) (.int .i64 u) (.slice (some ⟨g12, 0, none⟩) n c12)).heap.size := by rw [hsz]; omega
  clear Z Z_a Z_b Z_c Z_d sd
  clear hsz bb hall hsw
  generalize (sput w12 w10.heap.size (.int .i64 s) (.int .i64 u) (.slice (some ⟨g12, 0, none⟩) n c12)) = w13 at *
  have X_s := Y_s
  have S_s := T_s
  have Z := Z'
  have X_a := Y_a
  have S_a := T_a
  have Z_a := Z'_a
  have X_b := Y_b
  have S_b := T_b
  have Z_b := Z'_b
  have X_c := Y_c
  have S_c := T_c
  have Z_c := Z'_c
  have X_d := Y_d
  have S_d := T_d
  have Z_d := Z'_d
  have B := B'
  clear B' Y_s T_s Z' Y_a T_a Z'_a Y_b T_b Z'_b Y_c T_c Z'_c Y_d T_d Z'_d
  refine (got_ok s u _ n c8 _ _ S_c.out HO.out _ rfl).mono ?_
  rintro e w14 ⟨rfl, bb⟩
  have Y_s := Lib.hid (X_s.out.on bb Z)
  have T_s := Lib.hid (slLit0 S_s.out bb)
  replace Z : W.heap.size < w14.heap.size := Nat.lt_of_lt_of_le Z bb.size
  have Y_a := Lib.hid (X_a.out.on bb Z_a)
  have T_a := Lib.hid (slLit0 S_a.out bb)
  replace Z_a : w4.heap.size < w14.heap.size := Nat.lt_of_lt_of_le Z_a bb.size
  have Y_b := Lib.hid (X_b.out.on bb Z_b)
  have T_b := Lib.hid (slLit0 S_b.out bb)
  replace Z_b : w6.heap.size < w14.heap.size := Nat.lt_of_lt_of_le Z_b bb.size
  have Y_c := Lib.hid (X_c.out.on bb Z_c)
  have T_c := Lib.hid (slLit0 S_c.out bb)
  replace Z_c : w8.heap.size < w14.heap.size := Nat.lt_of_lt_of_le Z_c bb.size
  have Y_d := Lib.hid (X_d.out.on bb Z_d)
  have T_d := Lib.hid (slLit0 S_d.out bb)
  replace Z_d : w10.heap.size < w14.heap.size := Nat.lt_of_lt_of_le Z_d bb.size
  replace B := belLit0 B bb
  clear bb X_s S_s X_a S_a X_b S_b X_c S_c X_d S_d
  have X_s := Y_s
  have S_s := T_s
  have X_a := Y_a
  have S_a := T_a
  have X_b := Y_b
  have S_b := T_b
  have X_c := Y_c
  have S_c := T_c
  have X_d := Y_d
  have S_d := T_d
  clear Y_s T_s Y_a T_a Y_b T_b Y_c T_c Y_d T_d
  obtain ⟨cnt, hcnt⟩ : ∃ x, gsum s u ((bs.set I true).set J true) n = x := ⟨_, rfl⟩
  have HC := Lib.hid hcnt
  rw [hcnt]
  have HM' := HM.out
  rw [hcnt] at HM'
  have lb := X_s.out
  obtain ⟨l0, l1, l2, lf⟩ := lb
  clear hcnt
  go_wp2_with fail
  refine (next_ok s u A n c bs _ S_s.out HO.out).mono ?_
  rintro e w15 ⟨x, er, rfl, hans, bb⟩
  clear l0 l1 l2 lf
  have Y_s := Lib.hid (X_s.out.on bb Z)
  have T_s := Lib.hid (slLit0 S_s.out bb)
  replace Z : W.heap.size < w15.heap.size := Nat.lt_of_lt_of_le Z bb.size
  have Y_a := Lib.hid (X_a.out.on bb Z_a)
  have T_a := Lib.hid (slLit0 S_a.out bb)
  replace Z_a : w4.heap.size < w15.heap.size := Nat.lt_of_lt_of_le Z_a bb.size
  have Y_b := Lib.hid (X_b.out.on bb Z_b)
  have T_b := Lib.hid (slLit0 S_b.out bb)
  replace Z_b : w6.heap.size < w15.heap.size := Nat.lt_of_lt_of_le Z_b bb.size
  have Y_c := Lib.hid (X_c.out.on bb Z_c)
  have T_c := Lib.hid (slLit0 S_c.out bb)
  replace Z_c : w8.heap.size < w15.heap.size := Nat.lt_of_lt_of_le Z_c bb.size
  have Y_d := Lib.hid (X_d.out.on bb Z_d)
  have T_d := Lib.hid (slLit0 S_d.out bb)
  replace Z_d : w10.heap.size < w15.heap.size := Nat.lt_of_lt_of_le Z_d bb.size
  replace B := belLit0 B bb
  clear bb X_s S_s X_a S_a X_b S_b X_c S_c X_d S_d
  have X_s := Y_s
  have S_s := T_s
  have X_a := Y_a
  have S_a := T_a
  have X_b := Y_b
  have S_b := T_b
  have X_c := Y_c
  have S_c := T_c
  have X_d := Y_d
  have S_d := T_d
  clear Y_s T_s Y_a T_a Y_b T_b Y_c T_c Y_d T_d
  have lb_s := X_s.out
  obtain ⟨ls0, ls1, ls2, lsf⟩ := lb_s
  have lb_a := X_a.out
  obtain ⟨la0, la1, la2, laf⟩ := lb_a
  have lb_b := X_b.out
  obtain ⟨lb0, lb1, lb2, lbf⟩ := lb_b
  have lb_c := X_c.out
  obtain ⟨lc0, lc1, lc2, lcf⟩ := lb_c
  have lb_d := X_d.out
  obtain ⟨ld0, ld1, ld2, ldf⟩ := lb_d
  have EQ1 : Hid (decide (bs.set I true = (bs.set I true).set I true) = true) := Lib.hid (decide_eq_true (gset_self bs I).symm)
  have EQ2 : Hid (decide ((bs.set I true).set J true = (bs.set J true).set I true) = true) := Lib.hid (decide_eq_true (gset_comm bs I J))
  rcases hans with ⟨rfl, k, rfl, hk, hbk⟩ | ⟨rfl, rfl, hall⟩
  · obtain ⟨b', off', rfl, q', hcb⟩ := S_s.out.bool_at hk
    rw [hbk] at hcb
    have k0 : (0 : Int) ≤ k := by omega
    have k1 : (k : Int) < n := by omega
    have c1 : decide (was ≤ cnt) = true := decide_eq_true HM'
    have HK := Lib.hid hbk
    clear hbk HM'
    go_wp2_with fail
    refine (equalB_any _ _ n _ n _ _ _ _ _ _ S_a.out S_b.out hnn).mono ?_
    rintro e _ ⟨rfl, q1, rfl⟩
    rw [EQ1.out]
    go_wp2_with fail
    refine (equalB_any _ _ n _ n _ _ _ _ _ _ (S_c.out.drewN _) (S_d.out.drewN _) hnn).mono ?_
    rintro e _ ⟨rfl, q2, rfl⟩
    rw [EQ2.out]
    go_wp2_with fail
    go_ret
    exact ⟨rfl, below_drewN B _⟩
  · have e5 : cnt = s := by
      rw [← HC.out]
      exact gsum_full HO.out (fun k hk => gb_set _ _ _ (gb_set _ _ _ (hall k hk)))
    have c1 : decide (was ≤ cnt) = true := decide_eq_true HM'
    subst e5
    clear hall HM'
    go_wp2_with fail
    refine (equalB_any _ _ n _ n _ _ _ _ _ _ S_a.out S_b.out hnn).mono ?_
    rintro e _ ⟨rfl, q1, rfl⟩
    rw [EQ1.out]
    go_wp2_with fail
    refine (equalB_any _ _ n _ n _ _ _ _ _ _ (S_c.out.drewN _) (S_d.out.drewN _) hnn).mono ?_
    rintro e _ ⟨rfl, q2, rfl⟩
    rw [EQ2.out]
    go_wp2_with fail
    go_ret
    exact ⟨rfl, below_drewN B _⟩
end Go.Proofs.Ytehdphkaknjlnaa
