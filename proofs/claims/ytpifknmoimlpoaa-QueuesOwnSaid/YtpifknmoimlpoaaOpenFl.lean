/- A law's argument that is a slice of flows (a number and a slice of numbers each), opened. -/
import Derived.Test.YtpifknmoimlpoaaOpen
import Derived.Deep.Slices
import Derived.Deep.Fields
set_option linter.unusedVariables false
namespace Go.Proofs.Ytpifknmoimlpoaa
open Go.ChangeShapes Go.WideShapes Go.ChangeAt Go.RowKit Go.Deep
/-- The cells of n flows. -/
def flv (q : Nat → Int) (hd : Nat → Option Addr × Nat × Nat) (n : Nat) : List Value := (List.range (n * 2)).map fun j => if j % 2 = 0 then .int .i64 (q (j / 2)) else .slice (hd (j / 2)).1 (hd (j / 2)).2.1 (hd (j / 2)).2.2
theorem flv_len (q : Nat → Int) (hd : Nat → Option Addr × Nat × Nat) (n : Nat) : (flv q hd n).length = n * 2 := by simp [flv]
theorem flv_q {q : Nat → Int} {hd : Nat → Option Addr × Nat × Nat} {n i : Nat} (hi : i < n) : (flv q hd n)[i * 2]? = some (.int .i64 (q i)) := by
  unfold flv
  rw [List.getElem?_map, List.getElem?_range (by omega)]
  show some (if _ then _ else _) = _
  rw [if_pos (by omega), show i * 2 / 2 = i by omega]
theorem flv_s {q : Nat → Int} {hd : Nat → Option Addr × Nat × Nat} {n i : Nat} (hi : i < n) : (flv q hd n)[i * 2 + 1]? = some (.slice (hd i).1 (hd i).2.1 (hd i).2.2) := by
  unfold flv
  rw [List.getElem?_map, List.getElem?_range (by omega)]
  show some (if _ then _ else _) = _
  rw [if_neg (by omega), show (i * 2 + 1) / 2 = i by omega]
/-- A slice of n flows that came in. -/
structure InFl (W : World) (A : Option Addr) (n c : Nat) (q : Nat → Int) (hd : Nat → Option Addr × Nat × Nat) (ls : Nat → List Int) : Prop where
  sl : Sl W W.heap.size A (n * 2) (flv q hd n)
  le : n ≤ c
  reach : c * 32 ≤ 140737488351232
  num : ∀ i, i < n → -9223372036854775808 ≤ q i ∧ q i ≤ 9223372036854775807
  inner : ∀ i, i < n → Sl W W.heap.size (hd i).1 (hd i).2.1 (ints (ls i)) ∧ (hd i).2.1 ≤ (hd i).2.2 ∧ (hd i).2.2 ≤ 9223372036854775807 ∧ ∀ z ∈ ls i, -9223372036854775808 ≤ z ∧ z ≤ 9223372036854775807
section
variable {H : Type} {enc : TypeId × Value → H} {P : Program} {W : World} {t e e2 : TypeId} {v : Value} {d : DataW H} {p : List MemPlace} {base : Nat}
theorem open_sl_fl {f0 f1 : Field} (ht : P.underlying t = some (.slice e)) (he : P.underlying e = some (.struct #[f0, f1])) (hone : oneCellFields P #[f0, f1] = true) (hC : P.cellsOf e = 2) (hby : P.bytesOf e = 32)
    (u0 : P.underlying f0.type = some (.int .i64)) (u1 : P.underlying f1.type = some (.slice e2)) (he2 : P.underlying e2 = some (.int .i64)) (hC2 : P.cellsOf e2 = 1)
    (hok : Value.okWide P W .any base t v) (h : DataW.Trod enc P W 0 (fun _ => true) true t v d p)
    (hr : ∀ elems spare, d = .slice elems spare → (elems.length + spare.length) * P.bytesOf e ≤ reachBytes) :
    ∃ A n c q hd ls, v = .slice A n c ∧ InFl W A n c q hd ls := by
  obtain ⟨a, n, c, rfl⟩ := okWide_slice ht hok
  obtain ⟨fuel, hf⟩ := h
  rcases open_slice ht hf with ⟨hcs, _⟩ | ⟨x, l, c', m, k, D, Pl, hcs, _, hl, hm, hmm, hx, hi⟩
  · simp [Value.cells] at hcs
    obtain ⟨rfl, rfl, rfl⟩ := hcs
    exact ⟨none, 0, 0, fun _ => 0, fun _ => (none, 0, 0), fun _ => [], rfl, Sl.nil, by omega, by omega, fun i hi => by omega, fun i hi => by omega⟩
  · simp [Value.cells] at hcs
    obtain ⟨rfl, rfl, rfl⟩ := hcs
    simp only [if_true] at hmm
    subst hmm
    simp only [Prod.mk.injEq] at hx
    have hsz := hr _ _ hx.1
    rw [hby] at hsz
    simp only [List.length_map, List.length_range, reachBytes] at hsz
    have key : ∀ i, ∃ q : (Int × (Option Addr × Nat × Nat)) × List Int, i < n → (W.cell? (x.add (i * 2)) = some (.int .i64 q.1.1) ∧ (-9223372036854775808 ≤ q.1.1 ∧ q.1.1 ≤ 9223372036854775807)) ∧ W.cell? (x.add (i * 2 + 1)) = some (.slice q.1.2.1 q.1.2.2.1 q.1.2.2.2) ∧ Sl W W.heap.size q.1.2.1 q.1.2.2.1 (ints q.2) ∧ q.1.2.2.1 ≤ q.1.2.2.2 ∧ q.1.2.2.2 ≤ 9223372036854775807 ∧ ∀ z ∈ q.2, -9223372036854775808 ≤ z ∧ z ≤ 9223372036854775807 := by
      intro i
      by_cases hin : i < n
      · obtain ⟨cs', hc, ht'⟩ := hi i (by omega)
        rw [hC] at hc
        obtain ⟨xs, n', _, _, hlen, hxl, hg⟩ := DataW.trod_struct he ht'
        obtain ⟨_, hcl, hat⟩ := World.cells?_some hc
        have fld : ∀ (j : Nat) (f : Field), j < 2 → (#[f0, f1] : Array Field)[j]? = some f → ∃ y v, cs'[j]? = some v ∧ DataW.trod enc P W 0 (fun _ => true) true n' f.type [v] = some y := by
          intro j f hj hfj
          obtain ⟨ho, hk⟩ := hone_of hone j f hfj
          have h1 := hg j f hfj
          rw [ho, hk, List.drop_eq_getElem_cons (by omega)] at h1
          have hjx : j < xs.length := by rw [hxl]; exact hj
          have h2 : xs[j]? = some (xs[j]'hjx) := List.getElem?_eq_getElem hjx
          rw [h2] at h1
          simp only [List.take_succ_cons, List.take_zero] at h1
          exact ⟨_, _, List.getElem?_eq_getElem (by omega), h1⟩
        obtain ⟨y0, v0, g0, t0⟩ := fld 0 f0 (by omega) rfl
        obtain ⟨y1, v1, g1, t1⟩ := fld 1 f1 (by omega) rfl
        obtain ⟨z, hz, _, hw⟩ := DataW.trod_int u0 t0
        simp only [List.cons.injEq, and_true] at hz
        subst hz
        have d0 : W.cell? (x.add (i * 2)) = some (.int .i64 z) := by
          have := hat 0 (by omega)
          rw [g0, Go.Deep.add_add, Nat.add_zero] at this
          exact this
        have d1 : W.cell? (x.add (i * 2 + 1)) = some v1 := by
          have := hat 1 (by omega)
          rw [g1, Go.Deep.add_add] at this
          exact this
        rcases open_ints u1 he2 hC2 t1 with ⟨hcs2, _⟩ | ⟨y, l2, c2, zs, hcs2, _, hl2, hm2, hz2, hx2, hcell, hwz⟩
        · simp only [List.cons.injEq, and_true] at hcs2
          subst hcs2
          exact ⟨((z, (none, 0, 0)), []), fun _ => ⟨⟨d0, wf_i64_bounds hw⟩, d1, Sl.nil, Nat.le_refl _, by show 0 ≤ 9223372036854775807; omega, by simp⟩⟩
        · simp only [List.cons.injEq, and_true] at hcs2
          subst hcs2
          have hzc : zs.length = c2 := by simpa using hz2
          refine ⟨((z, (some y, l2, c2)), zs.take l2), fun _ => ⟨⟨d0, wf_i64_bounds hw⟩, d1, sl_of_cells (by simp [ints]; omega) (fun j u hu => ?_), hl2, by show c2 ≤ 9223372036854775807; simp only [maxLen] at hm2; omega, fun z hz' => wf_i64_bounds (hwz z (List.mem_of_mem_take hz'))⟩⟩
          have hj : j < l2 := by
            have := (List.getElem?_eq_some_iff.1 hu).1
            simp [ints] at this
            omega
          rw [ints_get (by simp; omega)] at hu
          injection hu with hu
          rw [hcell j (by omega), ← hu, gi_take hj]
          rfl
      · exact ⟨((0, (none, 0, 0)), []), fun h' => absurd h' hin⟩
    obtain ⟨f, hf'⟩ := Classical.axiomOfChoice key
    refine ⟨some x, n, m, fun i => (f i).1.1, fun i => (f i).1.2, fun i => (f i).2, rfl, sl_of_cells (flv_len _ _ _) (fun j u hu => ?_), hl, by omega, fun i hin => (hf' i hin).1.2, fun i hin => (hf' i hin).2.2⟩
    have hj : j < n * 2 := by
      have := (List.getElem?_eq_some_iff.1 hu).1
      rwa [flv_len] at this
    rcases Nat.mod_two_eq_zero_or_one j with h0 | h0
    · have e : j = j / 2 * 2 := by omega
      rw [e] at hu ⊢
      rw [flv_q (by omega)] at hu
      injection hu with hu
      rw [← hu]
      exact (hf' (j / 2) (by omega)).1.1
    · have e : j = j / 2 * 2 + 1 := by omega
      rw [e] at hu ⊢
      rw [flv_s (by omega)] at hu
      injection hu with hu
      rw [← hu]
      exact (hf' (j / 2) (by omega)).2.1
end
end Go.Proofs.Ytpifknmoimlpoaa
