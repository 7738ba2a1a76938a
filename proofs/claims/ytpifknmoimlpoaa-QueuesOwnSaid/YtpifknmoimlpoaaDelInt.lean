/- slices.Delete of one number, in a slice of the call's own. -/
import Derived.Test.YtpifknmoimlpoaaSetL
import Derived.Deep.RegionLaw
import Derived.Laws.IdiomCopy
set_option linter.unusedVariables false
namespace Go.Proofs.Ytpifknmoimlpoaa
open Go.RowKit
/-- Of all blocks that were there, only g may have turned. -/
structure OnlyD (g : Nat) (w w' : World) : Prop where
  os : w'.os = w.os
  tape : w'.tape = w.tape
  output : w'.output = w.output
  size : w.heap.size ≤ w'.heap.size
  block : ∀ k, k < w.heap.size → k ≠ g → w'.heap[k]? = w.heap[k]?
theorem OnlyD.refl (g : Nat) (w : World) : OnlyD g w w := ⟨rfl, rfl, rfl, Nat.le_refl _, fun _ _ _ => rfl⟩
theorem OnlyD.trans {g : Nat} {a b c : World} (h : OnlyD g a b) (k : OnlyD g b c) : OnlyD g a c :=
  ⟨k.os.trans h.os, k.tape.trans h.tape, k.output.trans h.output, Nat.le_trans h.size k.size, fun i hi h1 => (k.block i (Nat.lt_of_lt_of_le hi h.size) h1).trans (h.block i hi h1)⟩
theorem OnlyD.of_below {g : Nat} {w w' : World} (h : Below w.heap.size w w') : OnlyD g w w' := ⟨h.os, h.tape, h.output, h.size, fun k hk _ => h.block k hk⟩
theorem OnlyD.below {g B : Nat} {w w' : World} (h : OnlyD g w w') (h1 : B ≤ g) (hB : B ≤ w.heap.size) : Below B w w' := ⟨h.os, h.tape, h.output, h.size, fun k hk => h.block k (by omega) (by omega)⟩
theorem OnlyD.set {g : Nat} {a w : World} (h : OnlyD g a w) (o : Nat) (v : Value) : OnlyD g a (w.setCell ⟨g, o, none⟩ v) :=
  h.trans ⟨rfl, rfl, rfl, by simp [World.setCell], fun k hk h1 => Below.heap_setCell _ _ _ _ (by intro h'; exact h1 (by first | exact h' | exact h'.symm))⟩
theorem OnlyD.sets {g : Nat} {a : World} (vs : List Value) : ∀ (w : World) (o : Nat), OnlyD g a w → OnlyD g a (w.setCells g o vs) := by
  induction vs with
  | nil => intro w o h; exact h
  | cons v r ih => intro w o h; exact ih _ _ (h.set o v)
theorem OnlyD.drew {g : Nat} {a w : World} (h : OnlyD g a w) : OnlyD g a w.drew := h.trans (OnlyD.of_below (Below.refl _ _).drew)
theorem own_shrinkI {w : World} {base : Nat} {e : TypeId} {size g n cap : Nat} {xs : List Value} (h : w.ownsRow base e size (.slice (some ⟨g, 0, none⟩) n cap) n xs) {m : Nat} (hm : m ≤ n) : w.ownsRow base e size (.slice (some ⟨g, 0, none⟩) m cap) m (xs.take (m * size)) := by
  obtain ⟨cur, hb, hg, hc, hx, hs, ht⟩ := own_parts h
  have hle : m * size ≤ n * size := Nat.mul_le_mul_right _ hm
  refine ⟨by rw [List.length_take, h.1]; omega, .inr ⟨g, cap, cur, rfl, hb, hg, by omega, hx, hs, ?_⟩⟩
  rw [← ht, List.take_take, Nat.min_eq_left hle]
theorem del_listI {zs : List Int} {n i : Nat} (hl : zs.length = n) (hi : i < n) (last : Value) : (setC (setC (ints zs) i ((ints zs).drop (i + 1))) (n - 1) [last]).take (n - 1) = ints (zs.take i ++ zs.drop (i + 1)) := by
  have hz : (ints zs).length = n := by rw [ints_len, hl]
  have hd : ((ints zs).drop (i + 1)).length = n - (i + 1) := by rw [List.length_drop, hz]
  have l1 := setC_len ((ints zs).drop (i + 1)) (ints zs) i
  rw [setC_eq [last] _ _ (by rw [l1, hz]; simp only [List.length_cons, List.length_nil]; omega), List.append_assoc, List.take_append_of_le_length (by rw [List.length_take, l1, hz]; omega), List.take_take, Nat.min_self, setC_eq _ _ _ (by rw [hd, hz]; omega), List.take_append_of_le_length (by rw [List.length_append, List.length_take, hd, hz]; omega), List.take_of_length_le (by rw [List.length_append, List.length_take, hd, hz]; omega)]
  unfold ints
  simp only [List.map_append, List.map_take, List.map_drop]
theorem clearI (w : World) (ty : TypeId) (g o c : Nat) (hc : (w.cell? ⟨g, o, none⟩).isSome = true) (hf : w.frozen? ⟨g, o, none⟩ = false) :
    (Builtin.clear_ #[27] ty #[.slice (some ⟨g, o, none⟩) 1 c]).run Try.prog w = .ok (.tuple #[]) (w.setCells g o [.int .i64 0]) := by
  have hst := run_storeCells_cells (P := Try.prog) g o [.int .i64 0] 0 w (by intro j hj; simp at hj; subst hj; simpa using hc) (by intro j hj; simp at hj; subst hj; simpa using hf) (by simp [Value.oneCell'])
  simp only [Nat.add_zero] at hst
  have hz : (Builtin.zeroCells (Value.int .i64 0).cells 1).toList = [.int .i64 0] := by kernel_rfl
  have hv : ∀ w : World, (zeroValue 3).run Try.prog w = .ok (.int .i64 0) w := fun w => Try.zeroValue3 w
  simp [Builtin.clear_, run_underlying Try.underlying27, hv, hz, hst]
end Go.Proofs.Ytpifknmoimlpoaa
