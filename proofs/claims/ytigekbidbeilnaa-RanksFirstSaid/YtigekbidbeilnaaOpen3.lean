/- A law's argument that is a slice of structs of three ints, opened to a flat list of numbers. -/
import Derived.Test.YtigekbidbeilnaaOpen
import Derived.Deep.Slices
import Derived.Deep.Fields
import Derived.ChangeSame
set_option linter.unusedVariables false
namespace Go.Proofs.Ytigekbidbeilnaa
open Go.ChangeShapes Go.WideShapes Go.ChangeAt Go.RowKit Go.Deep
/-- A slice of n structs of three numbers each that came in: 3 n cells. -/
structure In3 (W : World) (A : Option Addr) (n c : Nat) (zs : List Int) : Prop where
  sl : Sl W W.heap.size A (n * 3) (ints zs)
  le : n ≤ c
  reach : c * 24 ≤ 140737488351232
  wf : ∀ z ∈ zs, -9223372036854775808 ≤ z ∧ z ≤ 9223372036854775807
def numAt (W : World) (a : Addr) (q : Nat) : Int := match W.cell? (a.add q) with | some (.int _ z) => z | _ => 0
section
variable {H : Type} {enc : TypeId × Value → H} {P : Program} {W : World} {t e : TypeId} {v : Value} {d : DataW H} {p : List MemPlace} {base : Nat}
theorem open_sl_3 {f0 f1 f2 : Field} (ht : P.underlying t = some (.slice e)) (he : P.underlying e = some (.struct #[f0, f1, f2])) (hone : oneCellFields P #[f0, f1, f2] = true) (hC : P.cellsOf e = 3) (hby : P.bytesOf e = 24)
    (u0 : P.underlying f0.type = some (.int .i64)) (u1 : P.underlying f1.type = some (.int .i64)) (u2 : P.underlying f2.type = some (.int .i64))
    (hok : Value.okWide P W .any base t v) (h : DataW.Trod enc P W 0 (fun _ => true) true t v d p)
    (hr : ∀ elems spare, d = .slice elems spare → (elems.length + spare.length) * P.bytesOf e ≤ reachBytes) :
    ∃ A n c zs, v = .slice A n c ∧ In3 W A n c zs := by
  obtain ⟨a, n, c, rfl⟩ := okWide_slice ht hok
  obtain ⟨fuel, hf⟩ := h
  rcases open_slice ht hf with ⟨hcs, _⟩ | ⟨x, l, c', m, k, D, Pl, hcs, _, hl, hm, hmm, hx, hi⟩
  · simp [Value.cells] at hcs
    obtain ⟨rfl, rfl, rfl⟩ := hcs
    exact ⟨none, 0, 0, [], rfl, Sl.nil, by omega, by omega, by simp⟩
  · simp [Value.cells] at hcs
    obtain ⟨rfl, rfl, rfl⟩ := hcs
    simp only [if_true] at hmm
    subst hmm
    simp only [Prod.mk.injEq] at hx
    have hsz := hr _ _ hx.1
    rw [hby] at hsz
    simp only [List.length_map, List.length_range, reachBytes] at hsz
    have key : ∀ i, i < m → ∀ j, j < 3 → ∃ z : Int, W.cell? (x.add (i * 3 + j)) = some (.int .i64 z) ∧ (Lit.int .i64 z).wf = true := by
      intro i him j hj
      obtain ⟨cs', hc, ht'⟩ := hi i him
      rw [hC] at hc
      obtain ⟨xs, n', _, _, hlen, hxl, hg⟩ := DataW.trod_struct he ht'
      obtain ⟨_, hcl, hat⟩ := World.cells?_some hc
      have one : ∀ (f : Field), (#[f0, f1, f2] : Array Field)[j]? = some f → P.underlying f.type = some (.int .i64) → ∃ z : Int, cs'[j]? = some (.int .i64 z) ∧ (Lit.int .i64 z).wf = true := by
        intro f hfj hu
        obtain ⟨ho, hk⟩ := hone_of hone j f hfj
        have h1 := hg j f hfj
        rw [ho, hk, List.drop_eq_getElem_cons (by omega)] at h1
        have hjx : j < xs.length := by rw [hxl]; exact hj
        have h2 : xs[j]? = some (xs[j]'hjx) := List.getElem?_eq_getElem hjx
        rw [h2] at h1
        obtain ⟨z, hz, _, hw⟩ := DataW.trod_int hu h1
        simp only [List.take_succ_cons, List.take_zero, List.cons.injEq, and_true] at hz
        exact ⟨z, by rw [List.getElem?_eq_getElem (by omega), hz], hw⟩
      have hcell := hat j hj
      have e1 : W.cell? (x.add (i * 3 + j)) = cs'[j]? := by rw [← Go.Deep.add_add]; exact hcell
      rw [e1]
      match j, hj with
      | 0, _ => exact one f0 rfl u0
      | 1, _ => exact one f1 rfl u1
      | 2, _ => exact one f2 rfl u2
    have num : ∀ q, q < m * 3 → W.cell? (x.add q) = some (.int .i64 (numAt W x q)) ∧ (Lit.int .i64 (numAt W x q)).wf = true := by
      intro q hq
      obtain ⟨z, hz, hw⟩ := key (q / 3) (by omega) (q % 3) (by omega)
      rw [show q / 3 * 3 + q % 3 = q by omega] at hz
      have e : numAt W x q = z := by unfold numAt; rw [hz]
      rw [e]
      exact ⟨hz, hw⟩
    refine ⟨some x, n, m, (List.range (n * 3)).map (numAt W x), rfl, sl_of_cells (by simp [ints]) (fun i u hu => ?_), hl, by omega, fun z hz => ?_⟩
    · have hi3 : i < n * 3 := by
        have := (List.getElem?_eq_some_iff.1 hu).1
        simpa [ints] using this
      rw [ints_get (by simpa using hi3)] at hu
      injection hu with hu
      rw [(num i (by omega)).1, ← hu]
      simp [gi, hi3]
    · obtain ⟨i, hi', rfl⟩ := List.mem_map.1 hz
      have := List.mem_range.1 hi'
      exact wf_i64_bounds (num i (by omega)).2
end
end Go.Proofs.Ytigekbidbeilnaa
