/- bucket.Check, Tick and Take. -/
import Derived.Test.YtehdphkaknjlnaaElems
set_option linter.unusedVariables false
namespace Go.Proofs.Ytehdphkaknjlnaa
open Go.RowKit
def bktOk (R B F : Int) : Prop := 0 ≤ R ∧ R ≤ 10000 ∧ 0 ≤ B ∧ B ≤ 1000000 ∧ 0 ≤ F ∧ F ≤ B
theorem bcell {W w1 : World} (hb : Below W.heap.size W w1) : (∀ b o, b < W.heap.size → w1.cell? ⟨b, o, none⟩ = W.cell? ⟨b, o, none⟩) ∧ (∀ b o, b < W.heap.size → w1.frozen? ⟨b, o, none⟩ = W.frozen? ⟨b, o, none⟩) :=
  ⟨fun b o h => hb.cell (p := ⟨b, o, none⟩) h, fun b o h => hb.frozen (p := ⟨b, o, none⟩) h⟩
/-- What a bucket holds n slots later. -/
def tickF (R B F n : Int) : Int := if F + n * R < B then F + n * R else B
theorem tickF_bd {R B F n : Int} (h : bktOk R B F) (n0 : 0 ≤ n) : bktOk R B (tickF R B F n) := by
  obtain ⟨h1, h2, h3, h4, h5, h6⟩ := h
  have p1 : 0 ≤ n * R := Int.mul_nonneg n0 h1
  unfold tickF
  exact ⟨h1, h2, h3, h4, by split <;> omega, by split <;> omega⟩
theorem tickF_add {R B F m n : Int} (h : bktOk R B F) (m0 : 0 ≤ m) (n0 : 0 ≤ n) : tickF R B (tickF R B F m) n = tickF R B F (m + n) := by
  obtain ⟨h1, h2, h3, h4, h5, h6⟩ := h
  have p1 : 0 ≤ n * R := Int.mul_nonneg n0 h1
  have p2 : 0 ≤ m * R := Int.mul_nonneg m0 h1
  unfold tickF
  rw [Int.add_mul]
  generalize m * R = M at *
  generalize n * R = N at *
  split <;> split <;> split <;> omega
end Go.Proofs.Ytehdphkaknjlnaa
