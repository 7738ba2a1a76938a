/- bucket.Check, Tick and Take. -/
import Derived.Test.YtpifknmoimlpoaaElems
set_option linter.unusedVariables false
namespace Go.Proofs.Ytpifknmoimlpoaa
open Go.RowKit
def bktOk (R B F : Int) : Prop := 0 ≤ R ∧ R ≤ 10000 ∧ 0 ≤ B ∧ B ≤ 1000000 ∧ 0 ≤ F ∧ F ≤ B
theorem bcell {W w1 : World} (hb : Below W.heap.size W w1) : (∀ b o, b < W.heap.size → w1.cell? ⟨b, o, none⟩ = W.cell? ⟨b, o, none⟩) ∧ (∀ b o, b < W.heap.size → w1.frozen? ⟨b, o, none⟩ = W.frozen? ⟨b, o, none⟩) :=
  ⟨fun b o h => hb.cell (p := ⟨b, o, none⟩) h, fun b o h => hb.frozen (p := ⟨b, o, none⟩) h⟩
theorem bcheck_ok (R B F : Int) (W : World) (h : bktOk R B F) :
    Calls Try.prog 91 #[.agg #[.int .i64 R, .int .i64 B, .int .i64 F]] W fun e w' => e = .returned (.int .i64 0) ∧ Below W.heap.size W w' := by
  obtain ⟨h1, h2, h3, h4, h5, h6⟩ := h
  have g1 : ¬ (R < 0) := by omega
  have g2 : ¬ (10000 < R) := by omega
  have g3 : ¬ (B < 0) := by omega
  have g4 : ¬ (1000000 < B) := by omega
  have g5 : ¬ (F < 0) := by omega
  have g6 : ¬ (B < F) := by omega
  go_enter Try.func91, Try.ntmps91
  go_wp2
  go_ret
  exact ⟨rfl, (Below.refl _ _).alloc (Nat.le_refl _) _⟩
theorem bcheck_bad (R B F : Int) (W : World) (h : ¬ bktOk R B F) :
    Calls Try.prog 91 #[.agg #[.int .i64 R, .int .i64 B, .int .i64 F]] W fun e w' => e = .returned (.int .i64 1) ∧ Below W.heap.size W w' := by
  unfold bktOk at h
  have key : R < 0 ∨ (¬ R < 0 ∧ 10000 < R) ∨ (¬ R < 0 ∧ ¬ 10000 < R ∧ B < 0) ∨ (¬ R < 0 ∧ ¬ 10000 < R ∧ ¬ B < 0 ∧ 1000000 < B) ∨
      (¬ R < 0 ∧ ¬ 10000 < R ∧ ¬ B < 0 ∧ ¬ 1000000 < B ∧ F < 0) ∨ (¬ R < 0 ∧ ¬ 10000 < R ∧ ¬ B < 0 ∧ ¬ 1000000 < B ∧ ¬ F < 0 ∧ B < F) := by omega
  clear h
  rcases key with h1 | ⟨h1, h2⟩ | ⟨h1, h2, h3⟩ | ⟨h1, h2, h3, h4⟩ | ⟨h1, h2, h3, h4, h5⟩ | ⟨h1, h2, h3, h4, h5, h6⟩
  all_goals
    go_enter Try.func91, Try.ntmps91
    go_wp2
    go_ret
    exact ⟨rfl, (Below.refl _ _).alloc (Nat.le_refl _) _⟩
/-- What a bucket holds n slots later. -/
def tickF (R B F n : Int) : Int := if F + n * R < B then F + n * R else B
set_option maxHeartbeats 800000 in
theorem tick_ok (R B F n : Int) (W : World) (h : bktOk R B F) (n0 : 0 ≤ n) (n1 : n ≤ 200) :
    Calls Try.prog 92 #[.agg #[.int .i64 R, .int .i64 B, .int .i64 F], .int .i64 n] W fun e w' =>
      e = .returned (.tuple #[.agg #[.int .i64 R, .int .i64 B, .int .i64 (tickF R B F n)], .int .i64 0]) ∧ Below W.heap.size W w' := by
  have H := Lib.hid h
  obtain ⟨h1, h2, h3, h4, h5, h6⟩ := h
  have g1 : ¬ (n < 0) := by omega
  have g2 : ¬ (200 < n) := by omega
  have p1 : 0 ≤ n * R := Int.mul_nonneg n0 h1
  have p2 : n * R ≤ 200 * 10000 := Int.mul_le_mul n1 h2 h1 (by omega)
  have e1 : wrap64 (n * R) = n * R := IntWalk.wrap64_in _ ⟨by omega, by omega⟩
  have e2 : wrap64 (F + n * R) = F + n * R := IntWalk.wrap64_in _ ⟨by omega, by omega⟩
  have e3 : (if F + n * R < B then F + n * R else B) = tickF R B F n := rfl
  go_enter Try.func92, Try.ntmps92
  go_wp2_with fail
  refine (bcheck_ok R B F _ H.out).mono ?_
  rintro e w1 ⟨rfl, hb⟩
  obtain ⟨hc, hf⟩ := bcell hb
  have hz : W.heap.size + 1 < w1.heap.size := by have := hb.size; simp at this; omega
  have hst : ∀ u, (w1.setCell ⟨W.heap.size, 2, none⟩ u).cell? ⟨W.heap.size, 2, none⟩ = some u := fun u =>
    World.cell?_setCell_same w1 _ u (u := .int .i64 F) (by rw [hc _ _ (by simp <;> omega)]; (simp [go_sem] <;> omega))
  go_wp2_with fail
  refine bodyPost_ret (v := .tuple #[.agg #[.int .i64 R, .int .i64 B, .int .i64 (tickF R B F n)], .int .i64 0]) (by simp [results, Try.results92, go_sem, hc, hst]) rfl ⟨rfl, ?_⟩
  have hB : Below W.heap.size W w1 := (((Below.refl _ _).alloc (Nat.le_refl _) _).alloc (by simp) _).trans (hb.mono (by simp <;> omega))
  repeat (first | exact hB | refine Below.setCell ?_ (by first | exact Nat.le_refl _ | exact Nat.le_succ _) _)
theorem tick_bad (R B F n : Int) (W : World) (h : bktOk R B F) (hn : n < 0 ∨ 200 < n) :
    Calls Try.prog 92 #[.agg #[.int .i64 R, .int .i64 B, .int .i64 F], .int .i64 n] W fun e w' =>
      e = .returned (.tuple #[.agg #[.int .i64 0, .int .i64 0, .int .i64 0], .int .i64 1]) ∧ Below W.heap.size W w' := by
  have H := Lib.hid h
  clear h
  rcases (show n < 0 ∨ (¬ n < 0 ∧ 200 < n) by omega) with hn | ⟨hn0, hn⟩
  all_goals
    go_enter Try.func92, Try.ntmps92
    go_wp2_with fail
    refine (bcheck_ok R B F _ H.out).mono ?_
    rintro e w1 ⟨rfl, hb⟩
    obtain ⟨hc, hf⟩ := bcell hb
    have hz : W.heap.size + 1 < w1.heap.size := by have := hb.size; simp at this; omega
    have hst0 : ∀ u v x, (((w1.setCell ⟨W.heap.size + 1, 0, none⟩ u).setCell ⟨W.heap.size + 1, 1, none⟩ v).setCell ⟨W.heap.size + 1, 2, none⟩ x).cell? ⟨W.heap.size + 1, 0, none⟩ = some u := fun u v x => by
      rw [World.cell?_setCell_other _ _ _ _ (by simp), World.cell?_setCell_other _ _ _ _ (by simp)]
      exact World.cell?_setCell_same w1 _ u (u := .int .i64 0) (by rw [hc _ _ (by simp <;> omega)]; (simp [go_sem] <;> omega))
    go_wp2_with fail
    refine bodyPost_ret (v := .tuple #[.agg #[.int .i64 0, .int .i64 0, .int .i64 0], .int .i64 1]) (by simp [results, Try.results92, go_sem, hc, hst0]) rfl ⟨rfl, ?_⟩
    have hB : Below W.heap.size W w1 := (((Below.refl _ _).alloc (Nat.le_refl _) _).alloc (by simp) _).trans (hb.mono (by simp <;> omega))
    repeat (first | exact hB | refine Below.setCell ?_ (by first | exact Nat.le_refl _ | exact Nat.le_succ _) _)
theorem take_full (R B F n : Int) (W : World) (h : bktOk R B F) (n0 : 0 ≤ n) (hn : F < n) :
    Calls Try.prog 93 #[.agg #[.int .i64 R, .int .i64 B, .int .i64 F], .int .i64 n] W fun e w' =>
      e = .returned (.tuple #[.agg #[.int .i64 0, .int .i64 0, .int .i64 0], .int .i64 6]) ∧ Below W.heap.size W w' := by
  have H := Lib.hid h
  have g1 : ¬ (n < 0) := by omega
  clear h
  go_enter Try.func93, Try.ntmps93
  go_wp2_with fail
  refine (bcheck_ok R B F _ H.out).mono ?_
  rintro e w1 ⟨rfl, hb⟩
  obtain ⟨hc, hf⟩ := bcell hb
  have hz : W.heap.size + 1 < w1.heap.size := by have := hb.size; simp at this; omega
  have hst0 : ∀ u v x, (((w1.setCell ⟨W.heap.size + 1, 0, none⟩ u).setCell ⟨W.heap.size + 1, 1, none⟩ v).setCell ⟨W.heap.size + 1, 2, none⟩ x).cell? ⟨W.heap.size + 1, 0, none⟩ = some u := fun u v x => by
    rw [World.cell?_setCell_other _ _ _ _ (by simp), World.cell?_setCell_other _ _ _ _ (by simp)]
    exact World.cell?_setCell_same w1 _ u (u := .int .i64 0) (by rw [hc _ _ (by simp <;> omega)]; (simp [go_sem] <;> omega))
  go_wp2_with fail
  refine bodyPost_ret (v := .tuple #[.agg #[.int .i64 0, .int .i64 0, .int .i64 0], .int .i64 6]) (by simp [results, Try.results93, go_sem, hc, hst0]) rfl ⟨rfl, ?_⟩
  have hB : Below W.heap.size W w1 := (((Below.refl _ _).alloc (Nat.le_refl _) _).alloc (by simp) _).trans (hb.mono (by simp <;> omega))
  repeat (first | exact hB | refine Below.setCell ?_ (by first | exact Nat.le_refl _ | exact Nat.le_succ _) _)
set_option maxHeartbeats 800000 in
theorem take_ok (R B F n : Int) (W : World) (h : bktOk R B F) (n0 : 0 ≤ n) (hn : n ≤ F) :
    Calls Try.prog 93 #[.agg #[.int .i64 R, .int .i64 B, .int .i64 F], .int .i64 n] W fun e w' =>
      e = .returned (.tuple #[.agg #[.int .i64 R, .int .i64 B, .int .i64 (F - n)], .int .i64 0]) ∧ Below W.heap.size W w' := by
  have H := Lib.hid h
  obtain ⟨h1, h2, h3, h4, h5, h6⟩ := h
  have g1 : ¬ (n < 0) := by omega
  have g2 : ¬ (F < n) := by omega
  go_enter Try.func93, Try.ntmps93
  go_wp2_with fail
  refine (bcheck_ok R B F _ H.out).mono ?_
  rintro e w1 ⟨rfl, hb⟩
  obtain ⟨hc, hf⟩ := bcell hb
  have hz : W.heap.size + 1 < w1.heap.size := by have := hb.size; simp at this; omega
  have hst : ∀ u, (w1.setCell ⟨W.heap.size, 2, none⟩ u).cell? ⟨W.heap.size, 2, none⟩ = some u := fun u =>
    World.cell?_setCell_same w1 _ u (u := .int .i64 F) (by rw [hc _ _ (by simp <;> omega)]; (simp [go_sem] <;> omega))
  go_wp2_with fail
  refine bodyPost_ret (v := .tuple #[.agg #[.int .i64 R, .int .i64 B, .int .i64 (F - n)], .int .i64 0]) (by simp [results, Try.results93, go_sem, hc]) rfl ⟨rfl, ?_⟩
  have hB : Below W.heap.size W w1 := (((Below.refl _ _).alloc (Nat.le_refl _) _).alloc (by simp) _).trans (hb.mono (by simp <;> omega))
  repeat (first | exact hB | refine Below.setCell ?_ (by first | exact Nat.le_refl _ | exact Nat.le_succ _) _)
theorem tickF_bd {R B F n : Int} (h : bktOk R B F) (n0 : 0 ≤ n) : bktOk R B (tickF R B F n) := by
  obtain ⟨h1, h2, h3, h4, h5, h6⟩ := h
  have p1 : 0 ≤ n * R := Int.mul_nonneg n0 h1
  unfold tickF
  exact ⟨h1, h2, h3, h4, by split <;> omega, by split <;> omega⟩
theorem tickF_add {R B F m n : Int} (h : bktOk R B F) (m0 : 0 ≤ m) (n0 : 0 ≤ n) : tickF R B (tickF R B F m) n = tickF R B F (m + n) := by
  obtain ⟨h1, h2, h3, h4, h5, h6⟩ := h
  have p1 : 0 ≤ n * R := Int.mul_nonneg n0 h1
  have p2 : 0 ≤ m * R := Int.mul_nonneg m0 h1
  unfold tickF
  rw [Int.add_mul]
  generalize m * R = M at *
  generalize n * R = N at *
  split <;> split <;> split <;> omega
end Go.Proofs.Ytpifknmoimlpoaa
