/- A law's arguments, opened: a slice of numbers, of bools, as a list. -/
import Derived.Test.YtpifknmoimlpoaaBase
import Derived.ProofKit
import Derived.OpenShut
import Derived.ShutString
import Derived.ChangeOld
import Derived.Below
import Derived.SizedLaws
import Derived.Deep.Grids
import Derived.Lib.SmallJoins
set_option linter.unusedVariables false
namespace Go.Proofs.Ytpifknmoimlpoaa
open Go.ChangeShapes Go.WideShapes Go.ChangeAt Go.RowKit Go.Deep
theorem sl_of_cells {W : World} {a : Addr} {n : Nat} {xs : List Value} (hl : xs.length = n) (hc : ∀ i u, xs[i]? = some u → W.cell? (a.add i) = some u) : Sl W W.heap.size (some a) n xs := by
  refine ⟨hl, fun hn => ?_⟩
  obtain ⟨b, off, spot⟩ := a
  have h0 := hc 0 xs[0] (List.getElem?_eq_getElem (by omega))
  have hspot : spot = none := by simpa [Addr.add] using World.cell?_spot h0
  subst hspot
  refine ⟨b, off, rfl, ?_, fun i u hu => ?_⟩
  · have := World.block_lt_of_cell? W _ h0
    simpa [Addr.add] using this
  · have := hc i u hu
    rwa [Addr.add_lit] at this
theorem wf_i64_bounds {z : Int} (h : (Lit.int .i64 z).wf = true) : -9223372036854775808 ≤ z ∧ z ≤ 9223372036854775807 := bounds_i64 h
section
variable {H : Type} {enc : TypeId × Value → H} {P : Program} {W : World} {t e : TypeId} {v : Value} {d : DataW H} {p : List MemPlace} {base : Nat}
theorem open_int3 {f0 f1 f2 : Field} (hs : P.underlying t = some (.struct #[f0, f1, f2])) (hone : oneCellFields P #[f0, f1, f2] = true) (hC : P.cellsOf t = 3)
    (u0 : P.underlying f0.type = some (.int .i64)) (u1 : P.underlying f1.type = some (.int .i64)) (u2 : P.underlying f2.type = some (.int .i64))
    (hv : Value.okWide P W .any base t v) (h : DataW.Trod enc P W 0 (fun _ => true) true t v d p) : ∃ a b c : Int, v = .agg #[.int .i64 a, .int .i64 b, .int .i64 c] := by
  obtain ⟨c0, c1, c2, y0, y1, y2, m, rfl, _, _, e0, e1, e2⟩ := Joins.open_agg3 hs hone hC hv h
  obtain ⟨a, ha, _, _⟩ := DataW.trod_int u0 e0
  obtain ⟨b, hb, _, _⟩ := DataW.trod_int u1 e1
  obtain ⟨c, hc, _, _⟩ := DataW.trod_int u2 e2
  simp at ha hb hc
  subst ha hb hc
  exact ⟨a, b, c, rfl⟩
theorem open_sl_ints (ht : P.underlying t = some (.slice e)) (he : P.underlying e = some (.int .i64)) (hc : P.cellsOf e = 1) (hby : P.bytesOf e = 8)
    (hok : Value.okWide P W .any base t v) (h : DataW.Trod enc P W 0 (fun _ => true) true t v d p)
    (hr : ∀ elems spare, d = .slice elems spare → (elems.length + spare.length) * P.bytesOf e ≤ reachBytes) :
    ∃ A n c zs, v = .slice A n c ∧ InInts W A n c zs := by
  obtain ⟨a, n, c, rfl⟩ := okWide_slice ht hok
  obtain ⟨fuel, hf⟩ := h
  rcases open_ints ht he hc hf with ⟨hcs, _⟩ | ⟨x, l, c', zs, hcs, _, hl, hm, hz, hx, hcell, hwz⟩
  · simp [Value.cells] at hcs
    obtain ⟨rfl, rfl, rfl⟩ := hcs
    exact ⟨none, 0, 0, [], rfl, Sl.nil, by omega, by omega, by simp⟩
  · simp [Value.cells] at hcs
    obtain ⟨rfl, rfl, rfl⟩ := hcs
    simp only [Prod.mk.injEq] at hx
    have := hr _ _ hx.1
    rw [hby] at this
    simp only [lits, List.length_map, List.length_take, List.length_drop, reachBytes] at this
    have hzc : zs.length = c := by simpa using hz
    refine ⟨some x, n, c, zs.take n, rfl, sl_of_cells (by simp [ints]; omega) (fun i u hu => ?_), hl, by omega, fun z hz => wf_i64_bounds (hwz z (List.mem_of_mem_take hz))⟩
    have hi : i < n := by
      have := (List.getElem?_eq_some_iff.1 hu).1
      simp [ints] at this
      omega
    rw [ints_get (by simp; omega)] at hu
    injection hu with hu
    rw [hcell i (by omega), ← hu, gi_take hi]
    rfl
theorem open_sl_bools (ht : P.underlying t = some (.slice e)) (he : P.underlying e = some .bool) (hc : P.cellsOf e = 1) (hby : P.bytesOf e = 1)
    (hok : Value.okWide P W .any base t v) (h : DataW.Trod enc P W 0 (fun _ => true) true t v d p)
    (hr : ∀ elems spare, d = .slice elems spare → (elems.length + spare.length) * P.bytesOf e ≤ reachBytes) :
    ∃ A n c bs, v = .slice A n c ∧ InBools W A n c bs := by
  obtain ⟨a, n, c, rfl⟩ := okWide_slice ht hok
  obtain ⟨fuel, hf⟩ := h
  rcases open_bools ht he hc hf with ⟨hcs, _⟩ | ⟨x, l, c', B, hcs, _, hl, hm, hx, hcell⟩
  · simp [Value.cells] at hcs
    obtain ⟨rfl, rfl, rfl⟩ := hcs
    exact ⟨none, 0, 0, [], rfl, Sl.nil, by omega, by omega⟩
  · simp [Value.cells] at hcs
    obtain ⟨rfl, rfl, rfl⟩ := hcs
    simp only [Prod.mk.injEq, boolRow] at hx
    have := hr _ _ hx.1
    rw [hby] at this
    simp only [List.length_map, List.length_range, reachBytes] at this
    refine ⟨some x, n, c, (List.range n).map B, rfl, sl_of_cells (by simp [bools]) (fun i u hu => ?_), hl, by omega⟩
    have hi : i < n := by
      have := (List.getElem?_eq_some_iff.1 hu).1
      simpa [bools] using this
    rw [bools_get (by simpa using hi)] at hu
    injection hu with hu
    rw [hcell i (by omega), ← hu]
    simp [gb, hi]
end
end Go.Proofs.Ytpifknmoimlpoaa
