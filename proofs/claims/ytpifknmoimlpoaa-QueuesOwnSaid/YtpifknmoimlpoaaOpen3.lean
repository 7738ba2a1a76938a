/- A law's argument that is a slice of structs of three ints, opened to a flat list of numbers. -/
import Derived.Test.YtpifknmoimlpoaaOpen
import Derived.Deep.Slices
import Derived.Deep.Fields
import Derived.ChangeSame
set_option linter.unusedVariables false
namespace Go.Proofs.Ytpifknmoimlpoaa
open Go.ChangeShapes Go.WideShapes Go.ChangeAt Go.RowKit Go.Deep
/-- A slice of n structs of three numbers each that came in: 3 n cells. -/
structure In3 (W : World) (A : Option Addr) (n c : Nat) (zs : List Int) : Prop where
  sl : Sl W W.heap.size A (n * 3) (ints zs)
  le : n ≤ c
  reach : c * 24 ≤ 140737488351232
  wf : ∀ z ∈ zs, -9223372036854775808 ≤ z ∧ z ≤ 9223372036854775807
def numAt (W : World) (a : Addr) (q : Nat) : Int := match W.cell? (a.add q) with | some (.int _ z) => z | _ => 0
section
variable {H : Type} {enc : TypeId × Value → H} {P : Program} {W : World} {t e : TypeId} {v : Value} {d : DataW H} {p : List MemPlace} {base : Nat}
theorem open_sl_3 {f0 f1 f2 : Field} (ht : P.underlying t = some (.slice e)) (he : P.underlying e = some (.struct #[f0, f1, f2])) (hone : oneCellFields P #[f0, f1, f2] = true) (hC : P.cellsOf e = 3) (hby : P.bytesOf e = 24)
    (u0 : P.underlying f0.type = some (.int .i64)) (u1 : P.underlying f1.type = some (.int .i64)) (u2 : P.underlying f2.type = some (.int .i64))
    (hok : Value.okWide P W .any base t v) (h : DataW.Trod enc P W 0 (fun _ => true) true t v d p)
    (hr : ∀ elems spare, d = .slice elems spare → (elems.length + spare.length) * P.bytesOf e ≤ reachBytes) :
    ∃ A n c zs, v = .slice A n c ∧ In3 W A n c zs := by
  obtain ⟨a, n, c, rfl⟩ := okWide_slice ht hok
  obtain ⟨fuel, hf⟩ := h
  rcases open_slice ht hf with ⟨hcs, _⟩ | ⟨x, l, c', m, k, D, Pl, hcs, _, hl, hm, hmm, hx, hi⟩
  · simp [Value.cells] at hcs
    obtain ⟨rfl, rfl, rfl⟩ := hcs
    exact ⟨none, 0, 0, [], rfl, Sl.nil, by omega, by omega, by simp⟩
  · simp [Value.cells] at hcs
    obtain ⟨rfl, rfl, rfl⟩ := hcs
    simp only [if_true] at hmm
    subst hmm
    simp only [Prod.mk.injEq] at hx
    have hsz := hr _ _ hx.1
    rw [hby] at hsz
    simp only [List.length_map, List.length_range, reachBytes] at hsz
    have key : ∀ i, i < m → ∀ j, j < 3 → ∃ z : Int, W.cell? (x.add (i * 3 + j)) = some (.int .i64 z) ∧ (Lit.int .i64 z).wf = true := by
      intro i him j hj
      obtain ⟨cs', hc, ht'⟩ := hi i him
      rw [hC] at hc
      obtain ⟨xs, n', _, _, hlen, hxl, hg⟩ := DataW.trod_struct he ht'
      obtain ⟨_, hcl, hat⟩ := World.cells?_some hc
      have one : ∀ (f : Field), (#[f0, f1, f2] : Array Field)[j]? = some f → P.underlying f.type = some (.int .i64) → ∃ z : Int, cs'[j]? = some (.int .i64 z) ∧ (Lit.int .i64 z).wf = true := by
        intro f hfj hu
        obtain ⟨ho, hk⟩ := hone_of hone j f hfj
        have h1 := hg j f hfj
        rw [ho, hk, List.drop_eq_getElem_cons (by omega)] at h1
        have hjx : j < xs.length := by rw [hxl]; exact hj
        have h2 : xs[j]? = some (xs[j]'hjx) := List.getElem?_eq_getElem hjx
        rw [h2] at h1
        obtain ⟨z, hz, _, hw⟩ := DataW.trod_int hu h1
        simp only [List.take_succ_cons, List.take_zero, List.cons.injEq, and_true] at hz
        exact ⟨z, by rw [List.getElem?_eq_getElem (by omega), hz], hw⟩
      have hcell := hat j hj
      have e1 : W.cell? (x.add (i * 3 + j)) = cs'[j]? := by rw [← Go.Deep.add_add]; exact hcell
      rw [e1]
      match j, hj with
      | 0, _ => exact one f0 rfl u0
      | 1, _ => exact one f1 rfl u1
      | 2, _ => exact one f2 rfl u2
    have num : ∀ q, q < m * 3 → W.cell? (x.add q) = some (.int .i64 (numAt W x q)) ∧ (Lit.int .i64 (numAt W x q)).wf = true := by
      intro q hq
      obtain ⟨z, hz, hw⟩ := key (q / 3) (by omega) (q % 3) (by omega)
      rw [show q / 3 * 3 + q % 3 = q by omega] at hz
      have e : numAt W x q = z := by unfold numAt; rw [hz]
      rw [e]
      exact ⟨hz, hw⟩
    refine ⟨some x, n, m, (List.range (n * 3)).map (numAt W x), rfl, sl_of_cells (by simp [ints]) (fun i u hu => ?_), hl, by omega, fun z hz => ?_⟩
    · have hi3 : i < n * 3 := by
        have := (List.getElem?_eq_some_iff.1 hu).1
        simpa [ints] using this
      rw [ints_get (by simpa using hi3)] at hu
      injection hu with hu
      rw [(num i (by omega)).1, ← hu]
      simp [gi, hi3]
    · obtain ⟨i, hi', rfl⟩ := List.mem_map.1 hz
      have := List.mem_range.1 hi'
      exact wf_i64_bounds (num i (by omega)).2
end
/-- Field j of struct i. -/
def fd (zs : List Int) (i j : Nat) : Int := gi zs (i * 3 + j)
theorem Sl.three {w : World} {B n b off : Nat} {zs : List Int} (h : Sl w B (some ⟨b, off, none⟩) (n * 3) (ints zs)) {k : Nat} (hk : k < n) :
    w.cell? ⟨b, off + k * 3, none⟩ = some (.int .i64 (fd zs k 0)) ∧ w.cell? ⟨b, off + k * 3 + 1, none⟩ = some (.int .i64 (fd zs k 1)) ∧ w.cell? ⟨b, off + k * 3 + 2, none⟩ = some (.int .i64 (fd zs k 2)) := by
  have h0 := h.int_cell (k := k * 3) (by omega)
  have h1 := h.int_cell (k := k * 3 + 1) (by omega)
  have h2 := h.int_cell (k := k * 3 + 2) (by omega)
  exact ⟨h0, by rw [Nat.add_assoc]; exact h1, by rw [Nat.add_assoc]; exact h2⟩
theorem first_bad3 (p : Nat → Prop) (n : Nat) : (∀ i, i < n → p i) ∨ ∃ k, k < n ∧ (∀ i, i < k → p i) ∧ ¬ p k := by
  induction n with
  | zero => exact .inl fun i hi => by omega
  | succ n ih =>
    rcases ih with h | ⟨k, h1, h2, h3⟩
    · by_cases hn : p n
      · refine .inl fun i hi => ?_
        rcases Nat.lt_or_ge i n with h' | h'
        · exact h i h'
        · obtain rfl : i = n := by omega
          exact hn
      · exact .inr ⟨n, by omega, h, hn⟩
    · exact .inr ⟨k, by omega, h2, h3⟩
theorem Sl.of_own3 {w : World} {n : Nat} {A : Option Addr} {xs : List Value} {base : Nat} {e : TypeId} {c : Nat} (h : w.ownsRow base e 3 (.slice A n c) n xs) : Sl w w.heap.size A (n * 3) xs := by
  refine ⟨h.1, fun hn => ?_⟩
  obtain ⟨g, cap, hv, _, hlt⟩ := h.form (by omega)
  have hA : A = some ⟨g, 0, none⟩ := by injection hv
  subst hA
  refine ⟨g, 0, rfl, hlt, fun i u hu => ?_⟩
  have := h.cells (g := g) rfl i u hu
  simpa [Addr.add_lit] using this
/-- A list of 3 n numbers out of a table of structs. -/
def flat3 (n : Nat) (f : Nat → Nat → Int) : List Int := tab (n * 3) fun q => f (q / 3) (q % 3)
theorem flat3_len (n : Nat) (f : Nat → Nat → Int) : (flat3 n f).length = n * 3 := tab_len _ _
theorem fd_flat3 {n : Nat} {f : Nat → Nat → Int} {i j : Nat} (hi : i < n) (hj : j < 3) : fd (flat3 n f) i j = f i j := by
  unfold fd flat3
  rw [tab_get _ (by omega), show (i * 3 + j) / 3 = i by omega, show (i * 3 + j) % 3 = j by omega]
theorem flat3_of {n : Nat} {zs : List Int} (h : zs.length = n * 3) : flat3 n (fd zs) = zs := by
  refine gi_ext (by rw [flat3_len, h]) fun q hq => ?_
  rw [flat3_len] at hq
  unfold flat3 fd
  rw [tab_get _ hq, show q / 3 * 3 + q % 3 = q by omega]
theorem flat3_set {n : Nat} {f : Nat → Nat → Int} {i j : Nat} (hi : i < n) (hj : j < 3) (v : Int) : (flat3 n f).set (i * 3 + j) v = flat3 n (fun a b => if a = i ∧ b = j then v else f a b) := by
  unfold flat3
  rw [tab_set _ _ _ (by omega)]
  refine tab_congr fun q hq => ?_
  show _ = if q / 3 = i ∧ q % 3 = j then v else f (q / 3) (q % 3)
  by_cases h : q = i * 3 + j
  · rw [if_pos h, if_pos (by omega)]
  · rw [if_neg h, if_neg (by omega)]
theorem flat3_congr {n : Nat} {f g : Nat → Nat → Int} (h : ∀ i, i < n → ∀ j, j < 3 → f i j = g i j) : flat3 n f = flat3 n g := by
  unfold flat3
  exact tab_congr fun q hq => h _ (by omega) _ (by omega)
end Go.Proofs.Ytpifknmoimlpoaa
