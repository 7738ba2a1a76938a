/- A law's argument that is a slice of flows, opened, with the reach of what each flow has. -/
import Derived.Test.YtpifknmoimlpoaaOpenFl
import Derived.Deep.SlicePairs
set_option linter.unusedVariables false
namespace Go.Proofs.Ytpifknmoimlpoaa
open Go.ChangeShapes Go.WideShapes Go.ChangeAt Go.RowKit Go.Deep
theorem weights_mem_all {H : Type} {P : Program} {e : TypeId} {d : DataW H} {x : Nat} (hx : x ∈ d.weights P e) : ∀ {l : List (DataW H)}, d ∈ l → x ∈ DataW.weightsAll P e l := by
  intro l
  induction l with
  | nil => intro h; cases h
  | cons a r ih =>
    intro h
    simp only [DataW.weightsAll, List.mem_append]
    rcases List.mem_cons.1 h with rfl | h
    · exact .inl hx
    · exact .inr (ih h)
section
variable {H : Type} {enc : TypeId × Value → H} {P : Program} {W : World} {t e e2 : TypeId} {v : Value} {d : DataW H} {p : List MemPlace} {base : Nat}
theorem open_sl_fl_r {f0 f1 : Field} (ht : P.underlying t = some (.slice e)) (he : P.underlying e = some (.struct #[f0, f1])) (hone : oneCellFields P #[f0, f1] = true) (hC : P.cellsOf e = 2) (hby : P.bytesOf e = 32)
    (u0 : P.underlying f0.type = some (.int .i64)) (u1 : P.underlying f1.type = some (.slice e2)) (he2 : P.underlying e2 = some (.int .i64)) (hC2 : P.cellsOf e2 = 1)
    (hb2 : P.bytesOf e2 = 8) (o0 : f0.offset = 0) (o1 : f1.offset = 1) (k0 : P.cellsOf f0.type = 1) (k1 : P.cellsOf f1.type = 1)
    (hok : Value.okWide P W .any base t v) (h : DataW.Trod enc P W 0 (fun _ => true) true t v d p)
    (hr : ∀ elems spare, d = .slice elems spare → (elems.length + spare.length) * P.bytesOf e ≤ reachBytes) (hr2 : ∀ w ∈ d.weights P t, w ≤ reachBytes) :
    ∃ A n c q hd ls, v = .slice A n c ∧ InFl W A n c q hd ls ∧ ∀ i, i < n → (hd i).2.1 * 8 ≤ 140737488351232 := by
  obtain ⟨A, n, c, q, hd, ls, rfl, hin⟩ := open_sl_fl ht he hone hC hby u0 u1 he2 hC2 hok h hr
  refine ⟨A, n, c, q, hd, ls, rfl, hin, fun i hi => ?_⟩
  obtain ⟨fuel, hf⟩ := h
  rcases open_slice_pairs ht he hC o0 o1 k0 k1 hf with ⟨hcs, _⟩ | ⟨x, l, c', m, k, V0, V1, D0, D1, P0, P1, hcs, _, hl, hm, hmm, hx, hcells⟩
  · simp [Value.cells] at hcs
    obtain ⟨rfl, rfl, rfl⟩ := hcs
    omega
  · simp [Value.cells] at hcs
    obtain ⟨rfl, rfl, rfl⟩ := hcs
    simp only [if_true] at hmm
    subst hmm
    simp only [Prod.mk.injEq] at hx
    obtain ⟨_, d1, _, t1⟩ := hcells i (by omega)
    obtain ⟨b, off, e', hb, hcc⟩ := hin.sl.2 (by omega)
    injection e' with e'
    subst e'
    have d1' := hcc (i * 2 + 1) _ (flv_s hi)
    rw [Addr.add_lit] at d1
    rw [d1'] at d1
    injection d1 with d1
    rw [← d1] at t1
    rcases open_ints u1 he2 hC2 t1 with ⟨h2, _⟩ | ⟨y, l2, c2, zs, h2, _, hl2, _, hz2, hx2, _, _⟩
    · simp at h2
      rw [h2.2.1]
      omega
    · simp at h2
      simp only [Prod.mk.injEq] at hx2
      rw [h2.2.1]
      have hz : zs.length = c2 := by simpa using hz2
      have hw := hr2 (c2 * 8) (by
        rw [hx.1]
        simp only [DataW.weights, ht, List.mem_cons, List.mem_append]
        refine .inr (.inl (weights_mem_all ?_ (List.mem_map.2 ⟨i, List.mem_range.2 hi, rfl⟩)))
        simp only [DataW.weights, he, DataW.weightsEach, List.map_cons, List.map_nil, List.mem_append]
        refine .inr (.inl ?_)
        rw [hx2.1]
        simp [DataW.weights, u1, hb2, lits]
        omega)
      have : c2 * 8 ≤ 140737488351232 := by simpa [reachBytes] using hw
      omega
end
end Go.Proofs.Ytpifknmoimlpoaa
