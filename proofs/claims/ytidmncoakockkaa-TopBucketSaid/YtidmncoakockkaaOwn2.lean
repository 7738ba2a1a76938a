/- More of tables, and of boxes. -/
import Derived.Test.YtidmncoakockkaaOwnT
import Derived.Test.YtidmncoakockkaaBucketR
set_option linter.unusedVariables false
namespace Go.Proofs.Ytidmncoakockkaa
open Go.RowKit
theorem Own.alloc {W wr : World} {n : Nat} {u : Nat → Int} (h : Own W wr n u) (o : Obj) : Own W (wr.alloc o) n u := ⟨h.row.alloc o, h.bel.alloc h.bel.size o⟩
theorem BBox.lit1 {w w1 : World} {g : Nat} {R B F : Int} {o : Obj} (h : BBox w g R B F) (hg : g < w.heap.size) (k : Below (w.alloc o).heap.size (w.alloc o) w1) : BBox w1 g R B F ∧ g < w1.heap.size :=
  ⟨(h.on ((Below.refl _ _).alloc (Nat.le_refl _) _) hg).on (k.mono (by simp)) hg, by have := k.size; simp at this; omega⟩
theorem BBox.lit0 {w w1 : World} {g : Nat} {R B F : Int} (h : BBox w g R B F) (hg : g < w.heap.size) (k : Below w.heap.size w w1) : BBox w1 g R B F ∧ g < w1.heap.size :=
  ⟨h.on k hg, by have := k.size; omega⟩
theorem BBox.sl {w : World} {g : Nat} {R B F : Int} (h : BBox w g R B F) (hg : g < w.heap.size) : Sl w w.heap.size (some ⟨g, 0, none⟩) 3 (ints [R, B, F]) := by
  refine ⟨rfl, fun _ => ⟨g, 0, rfl, hg, fun i u hu => ?_⟩⟩
  rw [Nat.zero_add]
  match i, hu with
  | 0, hu => simp [ints] at hu; subst hu; exact h.c0
  | 1, hu => simp [ints] at hu; subst hu; exact h.c1
  | 2, hu => simp [ints] at hu; subst hu; exact h.c2
  | i + 3, hu => simp [ints] at hu
end Go.Proofs.Ytidmncoakockkaa
