/- Cells set in a row; copy of elements of several cells; a row of the call's own made longer. -/
import Derived.Test.YtpifknmoimlpoaaElems
import Derived.Test.YtpifknmoimlpoaaOpen3
import Derived.Laws.IdiomCopy
import Derived.Lib.AppendZerosOnto
set_option linter.unusedVariables false
namespace Go.Proofs.Ytpifknmoimlpoaa
open Go.RowKit
/-- The cells from o on, set one by one. -/
def setC (xs : List Value) : Nat → List Value → List Value
  | _, [] => xs
  | o, v :: r => setC (xs.set o v) (o + 1) r
theorem setC_len (vs : List Value) : ∀ (xs : List Value) (o : Nat), (setC xs o vs).length = xs.length := by
  induction vs with
  | nil => intro xs o; rfl
  | cons v r ih => intro xs o; show (setC (xs.set o v) (o + 1) r).length = _; rw [ih, List.length_set]
theorem setC_eq (vs : List Value) : ∀ (xs : List Value) (o : Nat), o + vs.length ≤ xs.length → setC xs o vs = xs.take o ++ vs ++ xs.drop (o + vs.length) := by
  induction vs with
  | nil => intro xs o _; simp [setC]
  | cons v r ih =>
    intro xs o h
    show setC (xs.set o v) (o + 1) r = _
    simp only [List.length_cons] at h
    rw [ih (xs.set o v) (o + 1) (by rw [List.length_set]; omega)]
    have e1 : (xs.set o v).take (o + 1) = xs.take o ++ [v] := by
      rw [List.take_add_one, List.take_set_of_le (Nat.le_refl _), List.getElem?_set_self (by omega)]
      rfl
    have e2 : (xs.set o v).drop (o + 1 + r.length) = xs.drop (o + (v :: r).length) := by
      rw [List.drop_set_of_lt (by omega)]
      simp only [List.length_cons]
      congr 1
      omega
    rw [e1, e2]
    simp
theorem own_setC {base : Nat} {e : TypeId} {size g n cap : Nat} (vs : List Value) : ∀ (w : World) (xs : List Value) (o : Nat), w.ownsRow base e size (.slice (some ⟨g, 0, none⟩) n cap) n xs → (w.setCells g o vs).ownsRow base e size (.slice (some ⟨g, 0, none⟩) n cap) n (setC xs o vs) := by
  induction vs with
  | nil => intro w xs o h; exact h
  | cons v r ih => intro w xs o h; exact ih _ _ _ (h.stored o v).1
theorem below_setC {B g : Nat} {W : World} (vs : List Value) : ∀ (w : World) (o : Nat), Below B W w → B ≤ g → Below B W (w.setCells g o vs) := by
  induction vs with
  | nil => intro w o h _; exact h
  | cons v r ih => intro w o h hg; exact ih _ _ (h.setCell hg _) hg
theorem own_parts {w : World} {base : Nat} {e : TypeId} {size g n cap : Nat} {xs : List Value} (h : w.ownsRow base e size (.slice (some ⟨g, 0, none⟩) n cap) n xs) : ∃ cur : Array Value, base ≤ g ∧ w.heap[g]? = some (.cells cur e (0, 0)) ∧ n ≤ cap ∧ cap ≤ maxLen ∧ cur.size = cap * size ∧ cur.toList.take (n * size) = xs := by
  rcases h.2 with ⟨e1, _⟩ | ⟨g', cap', cur, e1, hb, hg, hc, hx, hs, ht⟩
  · cases e1
  · injection e1 with e1 e2 e3
    injection e1 with e1
    injection e1 with e1
    subst e1 e3
    exact ⟨cur, hb, hg, hc, hx, hs, ht⟩
theorem own_longer {w : World} {base : Nat} {e : TypeId} {size g n cap : Nat} {xs : List Value} (h : w.ownsRow base e size (.slice (some ⟨g, 0, none⟩) n cap) n xs) {m : Nat} (hm : n ≤ m) (hc : m ≤ cap) : ∃ rest, rest.length = (m - n) * size ∧ w.ownsRow base e size (.slice (some ⟨g, 0, none⟩) m cap) m (xs ++ rest) := by
  obtain ⟨cur, hb, hg, hn, hx, hs, ht⟩ := own_parts h
  have le : m * size ≤ cap * size := Nat.mul_le_mul_right _ hc
  have le2 : n * size ≤ m * size := Nat.mul_le_mul_right _ hm
  have e1 : (cur.toList.take (m * size)).length = m * size := by rw [List.length_take, Array.length_toList, hs]; omega
  have e2 : xs = (cur.toList.take (m * size)).take (n * size) := by rw [← ht, List.take_take, Nat.min_eq_left le2]
  refine ⟨(cur.toList.take (m * size)).drop (n * size), by rw [List.length_drop, e1, Nat.sub_mul], ?_⟩
  rw [e2, List.take_append_drop]
  exact ⟨e1, .inr ⟨g, cap, cur, rfl, hb, hg, hc, hx, hs, rfl⟩⟩
theorem run_copy_k (w : World) (dT sT ty elem : TypeId) (K b o dLen dCap : Nat) (a : Addr) (sLen sCap q : Nat) (cs : List Value)
    (hu : Try.prog.underlying dT = some (.slice elem)) (hs : (Try.prog.info? elem).map (·.size) = some K) (hq : Nat.min sLen dLen = q) (hn : cs.length = q * K)
    (hsrc : ∀ j v, cs[j]? = some v → w.cell? (a.add j) = some v) (hc : ∀ j, j < cs.length → (w.cell? ⟨b, o + j, none⟩).isSome = true) (hf : ∀ j, j < cs.length → w.frozen? ⟨b, o + j, none⟩ = false) (h1 : ∀ v ∈ cs, v.oneCell' = true) :
    (Builtin.copy_ #[dT, sT] ty #[.slice (some ⟨b, o, none⟩) dLen dCap, .slice (some a) sLen sCap]).run Try.prog w = .ok (goInt q) (w.setCells b o cs) := by
  have hl := run_loadCells_list (P := Try.prog) w a cs hsrc
  have hst := run_storeCells_cells (P := Try.prog) b o cs 0 w (by simpa using hc) (by simpa using hf) h1
  rw [hn] at hl
  cases hi : Try.prog.info? elem with
  | none => simp [hi] at hs
  | some i =>
    have hk : i.size = K := by simpa [hi] using hs
    simp [Builtin.copy_, run_underlying hu, Builtin.lenOf, Builtin.firstCells, sizeOf, typeInfo, hi, hk, hq, hl, hst]
end Go.Proofs.Ytpifknmoimlpoaa
