/- piece.Put. -/
import Derived.Test.YtpifknmoimlpoaaOwnT
import Derived.Test.YtpifknmoimlpoaaStageA
import Derived.Laws.ResultCell
set_option linter.unusedVariables false
namespace Go.Proofs.Ytpifknmoimlpoaa
open Go.RowKit
/-- A box of three cells at block g. -/
structure VBox (w : World) (g : Nat) (x y z : Value) : Prop where
  c0 : w.cell? ⟨g, 0, none⟩ = some x
  c1 : w.cell? ⟨g, 1, none⟩ = some y
  c2 : w.cell? ⟨g, 2, none⟩ = some z
  f : ∀ q, w.frozen? ⟨g, q, none⟩ = false
theorem VBox.on {w w' : World} {g D : Nat} {x y z : Value} (h : VBox w g x y z) (hb : Below D w w') (hg : g < D) : VBox w' g x y z :=
  ⟨(hb.cell (p := ⟨g, 0, none⟩) hg).trans h.c0, (hb.cell (p := ⟨g, 1, none⟩) hg).trans h.c1, (hb.cell (p := ⟨g, 2, none⟩) hg).trans h.c2, fun q => (hb.frozen (p := ⟨g, q, none⟩) hg).trans (h.f q)⟩
theorem VBox.made (w : World) (x y z : Value) (t : TypeId) : VBox (w.alloc (.cells #[x, y, z] t)) w.heap.size x y z :=
  ⟨World.cell?_alloc_at _ _ _ _ rfl, World.cell?_alloc_at _ _ _ _ rfl, World.cell?_alloc_at _ _ _ _ rfl, fun q => by simp [go_sem]⟩
theorem VBox.off {w : World} {g b o : Nat} {x y z v : Value} (h : VBox w g x y z) (hb : b ≠ g) : VBox (w.setCell ⟨b, o, none⟩ v) g x y z :=
  ⟨by rw [World.cell?_setCell_other _ _ _ _ (by simp [hb])]; exact h.c0, by rw [World.cell?_setCell_other _ _ _ _ (by simp [hb])]; exact h.c1,
   by rw [World.cell?_setCell_other _ _ _ _ (by simp [hb])]; exact h.c2, fun q => by simp [go_sem, h.f q]⟩
theorem VBox.set0 {w : World} {g : Nat} {x y z v : Value} (h : VBox w g x y z) : VBox (w.setCell ⟨g, 0, none⟩ v) g v y z :=
  ⟨World.cell?_setCell_same w _ _ h.c0, by rw [World.cell?_setCell_other _ _ _ _ (by simp)]; exact h.c1, by rw [World.cell?_setCell_other _ _ _ _ (by simp)]; exact h.c2, fun q => by simp [go_sem, h.f q]⟩
theorem VBox.set1 {w : World} {g : Nat} {x y z v : Value} (h : VBox w g x y z) : VBox (w.setCell ⟨g, 1, none⟩ v) g x v z :=
  ⟨by rw [World.cell?_setCell_other _ _ _ _ (by simp)]; exact h.c0, World.cell?_setCell_same w _ _ h.c1, by rw [World.cell?_setCell_other _ _ _ _ (by simp)]; exact h.c2, fun q => by simp [go_sem, h.f q]⟩
theorem VBox.set2 {w : World} {g : Nat} {x y z v : Value} (h : VBox w g x y z) : VBox (w.setCell ⟨g, 2, none⟩ v) g x y v :=
  ⟨by rw [World.cell?_setCell_other _ _ _ _ (by simp)]; exact h.c0, by rw [World.cell?_setCell_other _ _ _ _ (by simp)]; exact h.c1, World.cell?_setCell_same w _ _ h.c2, fun q => by simp [go_sem, h.f q]⟩
theorem bools_set (bs : List Bool) (i : Nat) (b : Bool) : (bools bs).set i (.bool b) = bools (bs.set i b) := by simp [bools, List.map_set]
/-- What a store of a fresh row into a box, one of its cells, and the box's copy into a second box lay. -/
theorem put_facts {w1 w2 : World} {g0 n c i : Nat} {s u : Value} {x y z : Value} {D : Nat} {W : World} {A : Option Addr} {bs : List Bool} {v : Value} {t : TypeId} (hi : i < n) (hl : bs.length = n) (hD : D ≤ g0)
    (X1 : VBox w1 g0 s u (.slice A n c)) (Y1 : VBox w1 (g0 + 1) x y z) (z1 : g0 + 2 ≤ w1.heap.size) (B1 : Below D W w1)
    (own2 : w2.ownsRow w1.heap.size t 1 v (0 + n) ([] ++ bools bs)) (b2 : Below w1.heap.size w1 w2) :
    ∃ g cap, v = .slice (some ⟨g, 0, none⟩) n cap ∧ n ≤ cap ∧ VBox w2 g0 s u (.slice A n c) ∧ VBox (w2.setCell ⟨g0, 2, none⟩ (.slice (some ⟨g, 0, none⟩) n cap)) g0 s u (.slice (some ⟨g, 0, none⟩) n cap) ∧
      (w2.setCell ⟨g0, 2, none⟩ (.slice (some ⟨g, 0, none⟩) n cap)).cell? ⟨g, i, none⟩ = some (.bool (gb bs i)) ∧ (w2.setCell ⟨g0, 2, none⟩ (.slice (some ⟨g, 0, none⟩) n cap)).frozen? ⟨g, i, none⟩ = false ∧
      VBox ((w2.setCell ⟨g0, 2, none⟩ (.slice (some ⟨g, 0, none⟩) n cap)).setCell ⟨g, i, none⟩ (.bool true)) g0 s u (.slice (some ⟨g, 0, none⟩) n cap) ∧
      VBox ((w2.setCell ⟨g0, 2, none⟩ (.slice (some ⟨g, 0, none⟩) n cap)).setCell ⟨g, i, none⟩ (.bool true)) (g0 + 1) x y z ∧
      VBox (((w2.setCell ⟨g0, 2, none⟩ (.slice (some ⟨g, 0, none⟩) n cap)).setCell ⟨g, i, none⟩ (.bool true)).setCell ⟨g0 + 1, 0, none⟩ s) (g0 + 1) s y z ∧
      VBox ((((w2.setCell ⟨g0, 2, none⟩ (.slice (some ⟨g, 0, none⟩) n cap)).setCell ⟨g, i, none⟩ (.bool true)).setCell ⟨g0 + 1, 0, none⟩ s).setCell ⟨g0 + 1, 1, none⟩ u) (g0 + 1) s u z ∧
      VBox (((((w2.setCell ⟨g0, 2, none⟩ (.slice (some ⟨g, 0, none⟩) n cap)).setCell ⟨g, i, none⟩ (.bool true)).setCell ⟨g0 + 1, 0, none⟩ s).setCell ⟨g0 + 1, 1, none⟩ u).setCell ⟨g0 + 1, 2, none⟩ (.slice (some ⟨g, 0, none⟩) n cap)) (g0 + 1) s u (.slice (some ⟨g, 0, none⟩) n cap) ∧
      Hid (∀ w5, w5 = ((((w2.setCell ⟨g0, 2, none⟩ (.slice (some ⟨g, 0, none⟩) n cap)).setCell ⟨g, i, none⟩ (.bool true)).setCell ⟨g0 + 1, 0, none⟩ s).setCell ⟨g0 + 1, 1, none⟩ u).setCell ⟨g0 + 1, 2, none⟩ (.slice (some ⟨g, 0, none⟩) n cap) →
        Sl w5 w5.heap.size (some ⟨g, 0, none⟩) n (bools (bs.set i true)) ∧ Below D W w5 ∧ w1.heap.size ≤ g ∧ w5.ownsRow w1.heap.size t 1 (.slice (some ⟨g, 0, none⟩) n cap) n (bools (bs.set i true))) := by
  simp only [Nat.zero_add, List.nil_append] at own2
  obtain ⟨g, cap, rfl, hg1, hg2⟩ := own2.form (by omega)
  have cp : n ≤ cap := by
    obtain ⟨_, _, hv, hc⟩ := own_form own2
    injection hv with _ _ h3
    omega
  have BB2 := B1.trans (b2.mono (by omega))
  have X2 := X1.on b2 (by omega)
  have Y2 := Y1.on b2 (by omega)
  have X3 := X2.set2 (v := .slice (some ⟨g, 0, none⟩) n cap)
  have Y3 := Y2.off (b := g0) (o := 2) (v := .slice (some ⟨g, 0, none⟩) n cap) (by omega)
  have O3 := ownsRow_setCell_below own2 (a := ⟨g0, 2, none⟩) (show g0 < w1.heap.size by omega) (.slice (some ⟨g, 0, none⟩) n cap)
  have BB3 := BB2.setCell (p := ⟨g0, 2, none⟩) hD (.slice (some ⟨g, 0, none⟩) n cap)
  have hc := O3.cellAt i (by omega)
  have hf := O3.frozenAt i
  rw [bools_get (by omega)] at hc
  have O4 := (O3.stored i (.bool true)).1
  rw [bools_set] at O4
  have X4 := X3.off (b := g) (o := i) (v := .bool true) (by omega)
  have Y4 := Y3.off (b := g) (o := i) (v := .bool true) (by omega)
  have BB4 := BB3.setCell (p := ⟨g, i, none⟩) (by show D ≤ g; omega) (.bool true)
  have Y50 := Y4.set0 (v := s)
  have Y51 := Y50.set1 (v := u)
  have Y5 := Y51.set2 (v := .slice (some ⟨g, 0, none⟩) n cap)
  have O5 := ownsRow_setCell_below (ownsRow_setCell_below (ownsRow_setCell_below O4 (a := ⟨g0 + 1, 0, none⟩) (show g0 + 1 < w1.heap.size by omega) s) (a := ⟨g0 + 1, 1, none⟩) (show g0 + 1 < w1.heap.size by omega) u) (a := ⟨g0 + 1, 2, none⟩) (show g0 + 1 < w1.heap.size by omega) (.slice (some ⟨g, 0, none⟩) n cap)
  have BB5 := ((BB4.setCell (p := ⟨g0 + 1, 0, none⟩) (show D ≤ g0 + 1 by omega) s).setCell (p := ⟨g0 + 1, 1, none⟩) (show D ≤ g0 + 1 by omega) u).setCell (p := ⟨g0 + 1, 2, none⟩) (show D ≤ g0 + 1 by omega) (.slice (some ⟨g, 0, none⟩) n cap)
  exact ⟨g, cap, rfl, cp, X2, X3, hc, hf, X4, Y4, Y50, Y51, Y5, fun w5 h5 => h5 ▸ ⟨Sl.of_own O5, BB5, hg1, O5⟩⟩
set_option maxHeartbeats 3200000 in
theorem put_ok (s u : Int) (A : Option Addr) (n c : Nat) (bs : List Bool) (i : Nat) (W : World) (hs : Sl W W.heap.size A n (bools bs)) (h : stageOk s u n) (hi : i < n) :
    Calls Try.prog 66 #[.agg #[.int .i64 s, .int .i64 u, .slice A n c], .int .i64 i] W fun e w' => ∃ A' c', e = .returned (.tuple #[.agg #[.int .i64 s, .int .i64 u, .slice A' n c'], .int .i64 0]) ∧ Sl w' w'.heap.size A' n (bools (bs.set i true)) ∧ n ≤ c' ∧ Below W.heap.size W w' ∧ (∃ g, A' = some ⟨g, 0, none⟩ ∧ W.heap.size ≤ g) ∧ w'.ownsRow W.heap.size 4 1 (.slice A' n c') n (bools (bs.set i true)) := by
  have H := Lib.hid h
  have hn := stage_len h
  clear h
  go_enter Try.func66, Try.ntmps66
  go_wp2_with fail
  refine (scheck_ok s u A n c _ H.out).mono ?_
  rintro e w1 ⟨rfl, b1⟩
  have B1 := Lib.hid (belLit2 (Below.refl W.heap.size W) b1)
  have S1 := slLit2 hs b1
  have X1 : VBox w1 W.heap.size (.int .i64 s) (.int .i64 u) (.slice A n c) := ((VBox.made W _ _ _ _).on ((Below.refl _ _).alloc (Nat.le_refl _) _) (by simp)).on b1 (by simp; omega)
  have Y1 : VBox w1 (W.heap.size + 1) (.int .i64 0) (.int .i64 0) (.slice none 0 0) := by
    have := (VBox.made (W.alloc (.cells #[.int .i64 s, .int .i64 u, .slice A n c] 84)) (.int .i64 0) (.int .i64 0) (.slice none 0 0) 84).on b1 (by simp)
    simpa using this
  have z1 : W.heap.size + 2 ≤ w1.heap.size := by have := b1.size; simpa using this
  have k1 : decide ((i : Int) < 0) = false := by simp
  have k2 : ¬ (n : Int) ≤ i := by omega
  have k3 : (0 : Int) ≤ i := by omega
  have k4 : (i : Int) < n := by omega
  obtain ⟨x0, x1, x2, xf⟩ := X1
  have X1 := Lib.hid (VBox.mk x0 x1 x2 xf)
  have YY := Lib.hid Y1
  have ON : w1.ownsRow w1.heap.size 4 1 (.slice none 0 0) 0 [] := World.ownsRow_nil _ _ _ _
  have SS := Lib.hid S1
  have OO := Lib.hid ON
  clear b1 hs Y1 S1 ON
  go_wp2_with (
      at_builtin
      refine wpList_cat rfl (.const (.slice none 0 0)) (.tmp 24) _ rfl elemBool w1.heap.size _ 0 [] A n c (bools bs) rfl rfl OO.out (Below.refl _ _) (Nat.le_refl _) (by simpa using SS.out.1) (fun h => SS.out.nil_len h) SS.out.cells_ (bools_one _) (by unfold maxLen; omega) (by omega) ?_
      intro v w2 own2 b2 z2 _
      obtain ⟨g, cap, rfl, cp, X2, X3, hc, hf, X4, Y4, Y50, Y51, Y5, FIN⟩ := put_facts hi SS.out.bool_len (Nat.le_refl _) X1.out YY.out z1 B1.out own2 b2
      obtain ⟨p0, p1, p2, pf⟩ := X2
      obtain ⟨q0, q1, q2, qf⟩ := X3
      obtain ⟨r0, r1, r2, rf⟩ := X4
      obtain ⟨a0, a1, a2, af⟩ := Y4
      obtain ⟨b0, b1, b2', bf⟩ := Y50
      obtain ⟨d0, d1, d2, df⟩ := Y51
      obtain ⟨e0, e1, e2, ef⟩ := Y5
      clear own2 b2 x0 x1 x2 xf)
  (try simp only [Exit.inBlock, Exit.then])
  refine bodyPost_ret (v := .tuple #[.agg #[.int .i64 s, .int .i64 u, .slice (some ⟨g, 0, none⟩) n cap], .int .i64 0]) ?_ rfl ⟨_, _, rfl, (FIN.out _ rfl).1, cp, (FIN.out _ rfl).2.1, ⟨g, rfl, by have := (FIN.out _ rfl).2.2.1; omega⟩, own_lower (FIN.out _ rfl).2.2.2 (by omega)⟩
  rw [results_cell_tmp rfl]
  simp [asAddr, Result.andThen, go_sem, e0, e1, e2]
end Go.Proofs.Ytpifknmoimlpoaa
