/- edf.Check, edf.Fits. -/
import Derived.Test.YtpifknmoimlpoaaElems
import Derived.Test.YtpifknmoimlpoaaOpen3
set_option linter.unusedVariables false
namespace Go.Proofs.Ytpifknmoimlpoaa
open Go.RowKit
def jobOk (zs : List Int) (i : Nat) : Prop := 0 ≤ fd zs i 0 ∧ fd zs i 0 < fd zs i 2 ∧ fd zs i 2 ≤ 200 ∧ 1 ≤ fd zs i 1 ∧ fd zs i 1 ≤ 200
instance (zs : List Int) (i : Nat) : Decidable (jobOk zs i) := by unfold jobOk; infer_instance
def edfOk (zs : List Int) (n : Nat) : Prop := n ≤ 12 ∧ ∀ i, i < n → jobOk zs i
instance (zs : List Int) (n : Nat) : Decidable (edfOk zs n) := by unfold edfOk; infer_instance
def edfErr (n : Nat) : Int := if 12 < n then 2 else 1
theorem edfErr_ne (n : Nat) : (edfErr n != 0) = true := by unfold edfErr; split <;> rfl
/-- What the first k jobs within [x, y] take. -/
def dem (zs : List Int) (x y : Int) : Nat → Int
  | 0 => 0
  | k + 1 => if x ≤ fd zs k 0 ∧ fd zs k 2 ≤ y then dem zs x y k + fd zs k 1 else dem zs x y k
theorem dem_succ (zs : List Int) (x y : Int) (k : Nat) : dem zs x y (k + 1) = if x ≤ fd zs k 0 ∧ fd zs k 2 ≤ y then dem zs x y k + fd zs k 1 else dem zs x y k := rfl
theorem dem_bd {zs : List Int} {n : Nat} (h : edfOk zs n) (x y : Int) (k : Nat) (hk : k ≤ n) : 0 ≤ dem zs x y k ∧ dem zs x y k ≤ 200 * k := by
  induction k with
  | zero => exact ⟨Int.le_refl _, by simp [dem]⟩
  | succ k ih =>
    have a := ih (by omega)
    obtain ⟨t0, t1, t2, t3, t4⟩ := h.2 k (by omega)
    rw [dem_succ]
    split <;> omega
def pairE (zs : List Int) (n a b : Nat) : Prop := fd zs a 0 < fd zs b 2 → dem zs (fd zs a 0) (fd zs b 2) n ≤ fd zs b 2 - fd zs a 0
def fitsE (zs : List Int) (n : Nat) : Prop := ∀ a, a < n → ∀ b, b < n → pairE zs n a b
instance (zs : List Int) (n a b : Nat) : Decidable (pairE zs n a b) := by unfold pairE; infer_instance
instance (zs : List Int) (n : Nat) : Decidable (fitsE zs n) := by unfold fitsE; infer_instance
/-- Three numbers at block g. -/
structure Tri (w : World) (g : Nat) (x y z : Int) : Prop where
  c0 : w.cell? ⟨g, 0, none⟩ = some (.int .i64 x)
  c1 : w.cell? ⟨g, 1, none⟩ = some (.int .i64 y)
  c2 : w.cell? ⟨g, 2, none⟩ = some (.int .i64 z)
  lt : g < w.heap.size
theorem Tri.new (w : World) (x y z : Int) (t : TypeId) : Tri (w.alloc (.cells #[.int .i64 x, .int .i64 y, .int .i64 z] t)) w.heap.size x y z :=
  ⟨World.cell?_alloc_at _ _ _ _ rfl, World.cell?_alloc_at _ _ _ _ rfl, World.cell?_alloc_at _ _ _ _ rfl, by simp⟩
theorem Tri.alloc {w : World} {g : Nat} {x y z : Int} (h : Tri w g x y z) (o : Obj) : Tri (w.alloc o) g x y z :=
  ⟨(World.cell?_alloc_lt _ _ _ h.lt).trans h.c0, (World.cell?_alloc_lt _ _ _ h.lt).trans h.c1, (World.cell?_alloc_lt _ _ _ h.lt).trans h.c2, by have := h.lt; simp; omega⟩
end Go.Proofs.Ytpifknmoimlpoaa
