/- For the second form ('Upto'): a parameter of slice type, with the bound on its places. -/
import Derived.Test.YtihhldphpoddhaaRows
import Derived.Test.YtihhldphpoddhaaOpen
set_option linter.unusedVariables false
namespace Go.Proofs.Ytihhldphpoddhaa
open Go.ChangeShapes Go.WideShapes Go.ChangeAt Go.RowKit
theorem bulk_pos {H : Type} (d : DataW H) : 1 ≤ Rows.uptoBulk d := by
  cases d with
  | lit l => cases l <;> simp [Rows.uptoBulk]
  | nil => simp [Rows.uptoBulk]
  | ptr d => simp [Rows.uptoBulk]
  | slice elems spare => simp [Rows.uptoBulk]
  | agg parts => simp [Rows.uptoBulk]
  | iface t d => simp [Rows.uptoBulk]
  | map entries => simp [Rows.uptoBulk]
  | held h => simp [Rows.uptoBulk]
theorem bulk_mem {H : Type} {d : DataW H} {l : List (DataW H)} (h : d ∈ l) : Rows.uptoBulk d ≤ Rows.uptoBulkAll l := by
  induction l with
  | nil => cases h
  | cons x r ih =>
    simp only [Rows.uptoBulkAll]
    rcases List.mem_cons.1 h with e | e
    · subst e; omega
    · have := ih e; omega
theorem bulk_len {H : Type} (l : List (DataW H)) : l.length ≤ Rows.uptoBulkAll l := by
  induction l with
  | nil => simp [Rows.uptoBulkAll]
  | cons x r ih => have := bulk_pos x; simp only [Rows.uptoBulkAll, List.length_cons]; omega
theorem bulk_slice {H : Type} {l elems spare : List (DataW H)} (hk : Rows.uptoSmall H l = true) (h : DataW.slice elems spare ∈ l) : elems.length + spare.length ≤ 1048576 := by
  have h0 := bulk_mem h
  have h1 := bulk_len elems
  have h2 := bulk_len spare
  have h3 : Rows.uptoBulkAll l ≤ 1048576 := by simpa [Rows.uptoSmall] using hk
  simp only [Rows.uptoBulk] at h0
  omega
section
variable {H : Type} {enc : TypeId × Value → H} {P : Program} {W : World} {base : Nat} {t e : TypeId} {v : Value} {d : DataW H} {p : List MemPlace}
theorem open_sl_ints_u (ht : P.underlying t = some (.slice e)) (he : P.underlying e = some (.int .i64)) (hc : P.cellsOf e = 1)
    (hok : Value.okWide P W .any base t v) (h : DataW.Trod enc P W 0 (fun _ => true) true t v d p)
    (hr : ∀ elems spare, d = .slice elems spare → elems.length + spare.length ≤ 1048576) :
    ∃ A n c zs, v = .slice A n c ∧ InInts W A n c zs ∧ n ≤ 1048576 := by
  obtain ⟨a, n, c, rfl⟩ := okWide_slice ht hok
  obtain ⟨fuel, hf⟩ := h
  rcases open_ints ht he hc hf with ⟨hcs, _⟩ | ⟨x, l, c', zs, hcs, _, hl, hm, hz, hx, hcell, hwz⟩
  · simp [Value.cells] at hcs
    obtain ⟨rfl, rfl, rfl⟩ := hcs
    exact ⟨none, 0, 0, [], rfl, ⟨Sl.nil, by omega, by omega, by simp⟩, by omega⟩
  · simp [Value.cells] at hcs
    obtain ⟨rfl, rfl, rfl⟩ := hcs
    simp only [Prod.mk.injEq] at hx
    have := hr _ _ hx.1
    simp only [lits, List.length_map, List.length_take, List.length_drop] at this
    have hzc : zs.length = c := by simpa using hz
    refine ⟨some x, n, c, zs.take n, rfl, ⟨sl_of_cells (by simp [ints]; omega) (fun i u hu => ?_), hl, by omega, fun z hz => wf_i64_bounds (hwz z (List.mem_of_mem_take hz))⟩, by omega⟩
    have hi : i < n := by
      have := (List.getElem?_eq_some_iff.1 hu).1
      simp [ints] at this
      omega
    rw [ints_get (by simp; omega)] at hu
    injection hu with hu
    rw [hcell i (by omega), ← hu, gi_take hi]
    rfl
end
end Go.Proofs.Ytihhldphpoddhaa
