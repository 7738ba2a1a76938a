/- piece.New; the error of piece.look by name; a box stored into. -/
import Derived.Test.YtehdphkaknjlnaaStageB
import Derived.Test.YtehdphkaknjlnaaStageP
set_option linter.unusedVariables false
namespace Go.Proofs.Ytehdphkaknjlnaa
open Go.RowKit
def lookE (s u : Int) : Int := if 0 ≤ s ∧ s ≤ 1000000 ∧ 1 ≤ u ∧ u ≤ 1000000 then 2 else 1
theorem lookE_ne (s u : Int) : (lookE s u != 0) = true := by unfold lookE; split <;> rfl
theorem plook_e (s u : Int) (W : World) (h : ¬ pieceOk s u) :
    Calls Try.prog 52 #[.int .i64 s, .int .i64 u] W fun e w' => e = .returned (.int .i64 (lookE s u)) ∧ W = w' := by
  by_cases hin : pieceIn s u
  · have H := Lib.hid hin
    have HE : Hid (lookE s u = 2) := if_pos hin
    have g5 : 200 < ceil s u := by
      rcases Int.lt_or_le 200 (ceil s u) with h' | h'
      · exact h'
      · exact absurd ⟨hin, h'⟩ h
    obtain ⟨h1, h2, h3, h4⟩ := hin
    have g1 : ¬ (s < 0) := by omega
    have g2 : ¬ (1000000 < s) := by omega
    have g3 : ¬ (u < 1) := by omega
    have g4 : ¬ (1000000 < u) := by omega
    clear h
    go_enter Try.func52, Try.ntmps52
    go_wp2_with fail
    refine (many_in s u _ H.out).mono ?_
    rintro e w' ⟨rfl, rfl⟩
    go_wp2_with fail
    go_ret
    exact ⟨ret_int HE.out.symm, rfl⟩
  · have HE : Hid (lookE s u = 1) := if_neg hin
    have hr : s < 0 ∨ (¬ s < 0 ∧ 1000000 < s) ∨ (¬ s < 0 ∧ ¬ 1000000 < s ∧ u < 1) ∨ (¬ s < 0 ∧ ¬ 1000000 < s ∧ ¬ u < 1 ∧ 1000000 < u) := by
      unfold pieceIn at hin
      omega
    clear h hin
    rcases hr with h1 | ⟨h1, h2⟩ | ⟨h1, h2, h3⟩ | ⟨h1, h2, h3, h4⟩
    all_goals
      go_enter Try.func52, Try.ntmps52
      go_wp2_with fail
      go_ret
      exact ⟨ret_int HE.out.symm, rfl⟩
theorem psizes_e (s u : Int) (W : World) (h : ¬ pieceOk s u) :
    Calls Try.prog 37 #[.int .i64 s, .int .i64 u] W fun e w' => e = .returned (.tuple #[.slice none 0 0, .int .i64 (lookE s u)]) ∧ W = w' := by
  have H := Lib.hid h
  have hne := lookE_ne s u
  clear h
  go_enter Try.func37, Try.ntmps37
  go_wp2_with fail
  refine (plook_e s u _ H.out).mono ?_
  rintro e w' ⟨rfl, rfl⟩
  go_wp2_with fail
  go_ret2
  exact ⟨rfl, rfl⟩
set_option maxHeartbeats 1600000 in
theorem new_e (s u : Int) (W : World) (h : ¬ pieceOk s u) :
    Calls Try.prog 38 #[.int .i64 s, .int .i64 u] W fun e w' => e = .returned (.tuple #[.agg #[.int .i64 0, .int .i64 0, .slice none 0 0], .int .i64 (lookE s u)]) ∧ Below W.heap.size W w' := by
  have H := Lib.hid h
  have hne := lookE_ne s u
  clear h
  obtain ⟨m0, m1, m2, mf⟩ := VBox.made W (.int .i64 0) (.int .i64 0) (.slice none 0 0) 59
  have BB := Lib.hid ((Below.refl W.heap.size W).alloc (Nat.le_refl _) (.cells #[.int .i64 0, .int .i64 0, .slice none 0 0] 59))
  go_enter Try.func38, Try.ntmps38
  go_wp2_with fail
  refine (plook_e s u _ H.out).mono ?_
  rintro e w' ⟨rfl, rfl⟩
  go_wp2_with fail
  (try simp only [Exit.inBlock, Exit.then])
  refine bodyPost_ret (v := .tuple #[.agg #[.int .i64 0, .int .i64 0, .slice none 0 0], .int .i64 (lookE s u)]) ?_ rfl ⟨rfl, BB.out⟩
  rw [results_cell_tmp rfl]
  simp [asAddr, Result.andThen, go_sem, m0, m1, m2]
theorem bools_made' (n : Nat) : (madeCells (Value.bool false).cells (n * 1)).toList = bools (List.replicate n false) := by
  rw [show (Value.bool false).cells = #[Value.bool false] from rfl, toList_madeCells_one, Nat.mul_one]
  simp [bools]
set_option maxHeartbeats 3200000 in
theorem new_ok (s u : Int) (N : Nat) (W : World) (h : pieceOk s u) (hN : ceil s u = N) :
    Calls Try.prog 38 #[.int .i64 s, .int .i64 u] W fun e w' => ∃ g, e = .returned (.tuple #[.agg #[.int .i64 s, .int .i64 u, .slice (some ⟨g, 0, none⟩) N N], .int .i64 0]) ∧ Sl w' w'.heap.size (some ⟨g, 0, none⟩) N (bools (List.replicate N false)) ∧ Below W.heap.size W w' ∧ W.heap.size ≤ g := by
  have H := Lib.hid h
  have HN := Lib.hid hN
  have n200 : N ≤ 200 := by have := h.2; omega
  clear h hN
  obtain ⟨ib, hib, hib0, hib1, hib2⟩ := elemBool.info
  have HB := Lib.hid hib2
  have MM := Lib.hid (VBox.made W (.int .i64 0) (.int .i64 0) (.slice none 0 0) 59)
  have BB := Lib.hid ((Below.refl W.heap.size W).alloc (Nat.le_refl _) (.cells #[.int .i64 0, .int .i64 0, .slice none 0 0] 59))
  go_enter Try.func38, Try.ntmps38
  go_wp2_with fail
  refine (plook_ok s u _ H.out).mono ?_
  rintro e w' ⟨rfl, rfl⟩
  go_wp2_with fail
  refine (many_in s u _ H.out.1).mono ?_
  rintro e w' ⟨rfl, rfl⟩
  rw [HN.out]
  generalize hw : W.alloc (.cells #[.int .i64 0, .int .i64 0, .slice none 0 0] 59) = w1 at MM BB ⊢
  have hsz : Hid (w1.heap.size = W.heap.size + 1) := by show _ = _; rw [← hw]; simp
  clear hw
  go_wp2_with (
      at_make
      refine wpList_make_full w1 rfl _ _ _ rfl w1.heap.size _ ib (.bool false) 1 elemBool.under hib hib0 hib1 .i64 .i64 N N N rfl rfl rfl rfl (by rw [HB.out]; omega) (by unfold maxLen; omega) (Nat.le_refl _) ?_
      intro w7 hown7 hg7
      have hb67 : Below w1.heap.size w1 w7 := (Below.refl _ _).grown hg7 (Nat.le_refl _) (fun k hk => by cases hk)
      rw [bools_made'] at hown7
      have V0 := MM.out.on hb67 (by rw [hsz.out]; omega)
      have V1 := V0.set0 (v := .int .i64 s)
      have V2 := V1.set1 (v := .int .i64 u)
      have V3 := V2.set2 (v := .slice (some ⟨w1.heap.size, 0, none⟩) N N)
      have O5 := Lib.hid (ownsRow_setCell_below (ownsRow_setCell_below (ownsRow_setCell_below hown7 (a := ⟨W.heap.size, 0, none⟩) (show W.heap.size < w1.heap.size by rw [hsz.out]; omega) (.int .i64 s)) (a := ⟨W.heap.size, 1, none⟩) (show W.heap.size < w1.heap.size by rw [hsz.out]; omega) (.int .i64 u)) (a := ⟨W.heap.size, 2, none⟩) (show W.heap.size < w1.heap.size by rw [hsz.out]; omega) (.slice (some ⟨w1.heap.size, 0, none⟩) N N))
      have B7 := Lib.hid ((((BB.out.trans (hb67.mono (by rw [hsz.out]; omega))).setCell (p := ⟨W.heap.size, 0, none⟩) (Nat.le_refl _) (.int .i64 s)).setCell (p := ⟨W.heap.size, 1, none⟩) (Nat.le_refl _) (.int .i64 u)).setCell (p := ⟨W.heap.size, 2, none⟩) (Nat.le_refl _) (.slice (some ⟨w1.heap.size, 0, none⟩) N N))
      obtain ⟨m0, m1, m2, mf⟩ := V0
      obtain ⟨n0, n1, n2, nf⟩ := V1
      obtain ⟨o0, o1, o2, of⟩ := V2
      obtain ⟨p0, p1, p2, pf⟩ := V3
      clear hown7 hg7 hb67)
  (try simp only [Exit.inBlock, Exit.then])
  refine bodyPost_ret (v := .tuple #[.agg #[.int .i64 s, .int .i64 u, .slice (some ⟨w1.heap.size, 0, none⟩) N N], .int .i64 0]) ?_ rfl ⟨_, rfl, Sl.of_own O5.out, B7.out, by rw [hsz.out]; omega⟩
  rw [results_cell_tmp rfl]
  simp [asAddr, Result.andThen, go_sem, p0, p1, p2]
end Go.Proofs.Ytehdphkaknjlnaa
