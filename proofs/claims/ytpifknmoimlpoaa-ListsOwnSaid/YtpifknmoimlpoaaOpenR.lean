/- A parameter that is a struct of two numbers and a slice of bools, opened, with the reach of the slice. -/
import Derived.Test.YtpifknmoimlpoaaOpenS
set_option linter.unusedVariables false
namespace Go.Proofs.Ytpifknmoimlpoaa
open Go.ChangeShapes Go.WideShapes Go.ChangeAt Go.RowKit Go.Deep
section
variable {H : Type} {enc : TypeId × Value → H} {P : Program} {W : World} {t e : TypeId} {v : Value} {d : DataW H} {p : List MemPlace} {base : Nat}
theorem open_stage_r {f0 f1 f2 : Field} (hs : P.underlying t = some (.struct #[f0, f1, f2])) (hone : oneCellFields P #[f0, f1, f2] = true) (hC : P.cellsOf t = 3)
    (u0 : P.underlying f0.type = some (.int .i64)) (u1 : P.underlying f1.type = some (.int .i64)) (u2 : P.underlying f2.type = some (.slice e)) (he : P.underlying e = some .bool) (hc : P.cellsOf e = 1) (hby : P.bytesOf e = 1)
    (hv : Value.okWide P W .any base t v) (h : DataW.Trod enc P W 0 (fun _ => true) true t v d p) (hr : ∀ w ∈ d.weights P t, w ≤ reachBytes) :
    ∃ (a b : Int) (A : Option Addr) (n c : Nat) (bs : List Bool), v = .agg #[.int .i64 a, .int .i64 b, .slice A n c] ∧ Sl W W.heap.size A n (bools bs) ∧ n ≤ 140737488351232 := by
  obtain ⟨c0, c1, c2, y0, y1, y2, m, rfl, rfl, _, e0, e1, e2⟩ := Joins.open_agg3 hs hone hC hv h
  obtain ⟨a, ha, _, _⟩ := DataW.trod_int u0 e0
  obtain ⟨b, hb, _, _⟩ := DataW.trod_int u1 e1
  simp at ha hb
  subst ha hb
  rcases open_bools u2 he hc e2 with ⟨hcs, _⟩ | ⟨x, l, c', B, hcs, _, hl, hm, hx, hcell⟩
  · simp at hcs
    subst hcs
    exact ⟨a, b, none, 0, 0, [], rfl, Sl.nil, by omega⟩
  · simp at hcs
    subst hcs
    have hw : c' ≤ 140737488351232 := by
      have hx1 : y2.1 = boolRow (some x) l c' B := by rw [hx]
      have := hr c' (by
        rw [hx1]
        simp [DataW.weights, DataW.weightsEach, hs, u2, boolRow, hby]
        omega)
      simpa [reachBytes] using this
    refine ⟨a, b, some x, l, c', (List.range l).map B, rfl, sl_of_cells (by simp [bools]) (fun i u hu => ?_), by omega⟩
    have hi : i < l := by
      have := (List.getElem?_eq_some_iff.1 hu).1
      simpa [bools] using this
    rw [bools_get (by simpa using hi)] at hu
    injection hu with hu
    rw [hcell i (by omega), ← hu]
    simp [gb, hi]
end
end Go.Proofs.Ytpifknmoimlpoaa
