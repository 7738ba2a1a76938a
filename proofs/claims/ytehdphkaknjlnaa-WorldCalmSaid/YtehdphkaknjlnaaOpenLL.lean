/- A law's argument that is a slice of slices of numbers, opened. -/
import Derived.Test.YtehdphkaknjlnaaOpen
import Derived.Deep.Slices
set_option linter.unusedVariables false
namespace Go.Proofs.Ytehdphkaknjlnaa
open Go.ChangeShapes Go.WideShapes Go.ChangeAt Go.RowKit Go.Deep
/-- A slice of n slices of numbers that came in. -/
structure InLL (W : World) (A : Option Addr) (n c : Nat) (hd : Nat → Option Addr × Nat × Nat) (ls : Nat → List Int) : Prop where
  sl : Sl W W.heap.size A n ((List.range n).map fun i => Value.slice (hd i).1 (hd i).2.1 (hd i).2.2)
  le : n ≤ c
  reach : c * 24 ≤ 140737488351232
  inner : ∀ i, i < n → Sl W W.heap.size (hd i).1 (hd i).2.1 (ints (ls i)) ∧ (hd i).2.1 ≤ (hd i).2.2 ∧ (hd i).2.2 ≤ 9223372036854775807 ∧ ∀ z ∈ ls i, -9223372036854775808 ≤ z ∧ z ≤ 9223372036854775807
theorem InLL.at_ {W : World} {A : Option Addr} {n c : Nat} {hd : Nat → Option Addr × Nat × Nat} {ls : Nat → List Int} (h : InLL W A n c hd ls) {i : Nat} (hi : i < n) : ∃ b off, A = some ⟨b, off, none⟩ ∧ b < W.heap.size ∧ W.cell? ⟨b, off + i, none⟩ = some (.slice (hd i).1 (hd i).2.1 (hd i).2.2) :=
  h.sl.at_ hi (by rw [List.getElem?_map, List.getElem?_range hi]; rfl)
section
variable {H : Type} {enc : TypeId × Value → H} {P : Program} {W : World} {t e e2 : TypeId} {v : Value} {d : DataW H} {p : List MemPlace} {base : Nat}
theorem open_sl_sl (ht : P.underlying t = some (.slice e)) (he : P.underlying e = some (.slice e2)) (he2 : P.underlying e2 = some (.int .i64)) (hC : P.cellsOf e = 1) (hC2 : P.cellsOf e2 = 1) (hby : P.bytesOf e = 24)
    (hok : Value.okWide P W .any base t v) (h : DataW.Trod enc P W 0 (fun _ => true) true t v d p)
    (hr : ∀ elems spare, d = .slice elems spare → (elems.length + spare.length) * P.bytesOf e ≤ reachBytes) :
    ∃ A n c hd ls, v = .slice A n c ∧ InLL W A n c hd ls := by
  obtain ⟨a, n, c, rfl⟩ := okWide_slice ht hok
  obtain ⟨fuel, hf⟩ := h
  rcases open_slice ht hf with ⟨hcs, _⟩ | ⟨x, l, c', m, k, D, Pl, hcs, _, hl, hm, hmm, hx, hi⟩
  · simp [Value.cells] at hcs
    obtain ⟨rfl, rfl, rfl⟩ := hcs
    exact ⟨none, 0, 0, fun _ => (none, 0, 0), fun _ => [], rfl, Sl.nil, by omega, by omega, fun i hi => by omega⟩
  · simp [Value.cells] at hcs
    obtain ⟨rfl, rfl, rfl⟩ := hcs
    simp only [if_true] at hmm
    subst hmm
    simp only [Prod.mk.injEq] at hx
    have hsz := hr _ _ hx.1
    rw [hby] at hsz
    simp only [List.length_map, List.length_range, reachBytes] at hsz
    have key : ∀ i, ∃ q : (Option Addr × Nat × Nat) × List Int, i < n → W.cell? (x.add i) = some (.slice q.1.1 q.1.2.1 q.1.2.2) ∧ Sl W W.heap.size q.1.1 q.1.2.1 (ints q.2) ∧ q.1.2.1 ≤ q.1.2.2 ∧ q.1.2.2 ≤ 9223372036854775807 ∧ ∀ z ∈ q.2, -9223372036854775808 ≤ z ∧ z ≤ 9223372036854775807 := by
      intro i
      by_cases hin : i < n
      · obtain ⟨cs', hc, ht'⟩ := hi i (by omega)
        rw [hC, Nat.mul_one] at hc
        obtain ⟨_, hcl, hat⟩ := World.cells?_some hc
        have h0 := hat 0 (by omega)
        have e0 : (x.add i).add 0 = x.add i := by rw [Go.Deep.add_add, Nat.add_zero]
        rw [e0] at h0
        rcases open_ints he he2 hC2 ht' with ⟨hcs2, _⟩ | ⟨y, l2, c2, zs, hcs2, _, hl2, hm2, hz, hx2, hcell, hwz⟩
        · subst hcs2
          exact ⟨((none, 0, 0), []), fun _ => ⟨h0, Sl.nil, Nat.le_refl _, by show 0 ≤ 9223372036854775807; omega, by simp⟩⟩
        · subst hcs2
          have hzc : zs.length = c2 := by simpa using hz
          refine ⟨((some y, l2, c2), zs.take l2), fun _ => ⟨h0, sl_of_cells (by simp [ints]; omega) (fun j u hu => ?_), hl2, by show c2 ≤ 9223372036854775807; simp only [maxLen] at hm2; omega, fun z hz' => wf_i64_bounds (hwz z (List.mem_of_mem_take hz'))⟩⟩
          have hj : j < l2 := by
            have := (List.getElem?_eq_some_iff.1 hu).1
            simp [ints] at this
            omega
          rw [ints_get (by simp; omega)] at hu
          injection hu with hu
          rw [hcell j (by omega), ← hu, gi_take hj]
          rfl
      · exact ⟨((none, 0, 0), []), fun h' => absurd h' hin⟩
    obtain ⟨f, hf'⟩ := Classical.axiomOfChoice key
    refine ⟨some x, n, m, fun i => (f i).1, fun i => (f i).2, rfl, sl_of_cells (by simp) (fun i u hu => ?_), hl, by omega, fun i hin => (hf' i hin).2⟩
    have hin : i < n := by
      have := (List.getElem?_eq_some_iff.1 hu).1
      simpa using this
    rw [List.getElem?_map, List.getElem?_range hin] at hu
    injection hu with hu
    rw [(hf' i hin).1, ← hu]
end
end Go.Proofs.Ytehdphkaknjlnaa
