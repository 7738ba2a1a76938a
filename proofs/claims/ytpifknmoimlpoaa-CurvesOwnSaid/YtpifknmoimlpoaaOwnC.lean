/- CurvesOwn: what is kept of all answers. -/
import Derived.Test.YtpifknmoimlpoaaFresh
import Derived.Test.YtpifknmoimlpoaaRoomInt
import Derived.Test.YtpifknmoimlpoaaCloneInt
import Derived.Test.YtpifknmoimlpoaaKit0
set_option linter.unusedVariables false
namespace Go.Proofs.Ytpifknmoimlpoaa
open Go.RowKit
theorem elemLL : Elem Try.prog 77 27 (.slice none 0 0) 1 24 := by
  obtain ⟨i, h1, h2, h3, h4⟩ := info_parts (P := Try.prog) (e := 27) (z := .slice none 0 0) (size := 1) (bytes := 24) (by kernel_rfl)
  exact ⟨Try.underlying77, ⟨i, h1, h2, h3, h4⟩, rfl, by decide, by decide⟩
/-- Two lists with room behind them. -/
structure AB (w : World) (B D ga gb n m : Nat) (f g : List Int) : Prop where
  a : w.ownsRow B 3 1 (.slice (some ⟨ga, 0, none⟩) (n + 3) (n + 3)) (n + 3) (ints f ++ rep3 [.int .i64 (-7)] 3)
  b : w.ownsRow B 3 1 (.slice (some ⟨gb, 0, none⟩) (m + 3) (m + 3)) (m + 3) (ints g ++ rep3 [.int .i64 (-8)] 3)
  lf : f.length = n
  lg : g.length = m
  la : ga < D
  lb : gb < D
  ne : ga ≠ gb
section
variable {w w' : World} {B D ga gb n m : Nat} {f g : List Int}
theorem AB.on (h : AB w B D ga gb n m f g) (hb : Below D w w') : AB w' B D ga gb n m f g := ⟨own_keepR h.a hb h.la, own_keepR h.b hb h.lb, h.lf, h.lg, h.la, h.lb, h.ne⟩
theorem AB.ra (h : AB w B D ga gb n m f g) : w.ownsRow B 3 1 (.slice (some ⟨ga, 0, none⟩) n (n + 3)) n (ints f) := own_short h.a (by omega) (by rw [Nat.mul_one, List.take_append_of_le_length (by rw [ints_len, h.lf]; omega), List.take_of_length_le (by rw [ints_len, h.lf]; omega)])
theorem AB.rb (h : AB w B D ga gb n m f g) : w.ownsRow B 3 1 (.slice (some ⟨gb, 0, none⟩) m (m + 3)) m (ints g) := own_short h.b (by omega) (by rw [Nat.mul_one, List.take_append_of_le_length (by rw [ints_len, h.lg]; omega), List.take_of_length_le (by rw [ints_len, h.lg]; omega)])
theorem AB.sa (h : AB w B D ga gb n m f g) : Sl w w.heap.size (some ⟨ga, 0, none⟩) n (ints f) := Sl.of_own (own_short h.a (by omega) (by rw [Nat.mul_one, List.take_append_of_le_length (by rw [ints_len, h.lf]; omega), List.take_of_length_le (by rw [ints_len, h.lf]; omega)]))
theorem AB.sb (h : AB w B D ga gb n m f g) : Sl w w.heap.size (some ⟨gb, 0, none⟩) m (ints g) := Sl.of_own (own_short h.b (by omega) (by rw [Nat.mul_one, List.take_append_of_le_length (by rw [ints_len, h.lg]; omega), List.take_of_length_le (by rw [ints_len, h.lg]; omega)]))
end
/-- An answer: its value, what it reads as. -/
def Ans := Value × List Int
def ansV (R : List (Value × List Int)) (i : Nat) : Value := (R.getD i (.slice none 0 0, [])).1
def ansZ (R : List (Value × List Int)) (i : Nat) : List Int := (R.getD i (.slice none 0 0, [])).2
theorem ansV_app {R : List (Value × List Int)} {x : Value × List Int} {i : Nat} (h : i < R.length) : ansV (R ++ [x]) i = ansV R i := by
  unfold ansV
  rw [List.getD_eq_getElem?_getD, List.getD_eq_getElem?_getD, List.getElem?_append_left h]
theorem ansZ_app {R : List (Value × List Int)} {x : Value × List Int} {i : Nat} (h : i < R.length) : ansZ (R ++ [x]) i = ansZ R i := by
  unfold ansZ
  rw [List.getD_eq_getElem?_getD, List.getD_eq_getElem?_getD, List.getElem?_append_left h]
theorem ansV_last {R : List (Value × List Int)} {x : Value × List Int} : ansV (R ++ [x]) R.length = x.1 := by
  unfold ansV
  rw [List.getD_eq_getElem?_getD, List.getElem?_append_right (Nat.le_refl _)]
  simp
theorem ansZ_last {R : List (Value × List Int)} {x : Value × List Int} : ansZ (R ++ [x]) R.length = x.2 := by
  unfold ansZ
  rw [List.getD_eq_getElem?_getD, List.getElem?_append_right (Nat.le_refl _)]
  simp
theorem ans_get {R : List (Value × List Int)} {i : Nat} (h : i < R.length) : (R.map (·.1))[i]? = some (ansV R i) := by
  unfold ansV
  rw [List.getElem?_map, List.getElem?_eq_getElem h, List.getD_eq_getElem?_getD, List.getElem?_eq_getElem h]
  rfl
/-- A row of numbers of the call's own, no longer than a curve. -/
def IsRow (w : World) (base : Nat) (v : Value) (zs : List Int) : Prop := ∃ A n c, v = .slice A n c ∧ n ≤ 61 ∧ w.ownsRow base 3 1 (.slice A n c) n (ints zs)
theorem IsRow.lt {w : World} {base : Nat} {v : Value} {zs : List Int} (h : IsRow w base v zs) : ∀ b, v.ownBlock = some b → base ≤ b ∧ b < w.heap.size := by
  obtain ⟨A, n, c, rfl, _, ho⟩ := h
  exact ho.lt
theorem IsRow.kept {w w' : World} {base : Nat} {v : Value} {zs : List Int} {r : Option Nat} (h : IsRow w base v zs) (hg : w.grownBy w' r) (hr : ∀ b, v.ownBlock = some b → r ≠ some b) : IsRow w' base v zs := by
  obtain ⟨A, n, c, rfl, hn, ho⟩ := h
  refine ⟨A, n, c, rfl, hn, ho.kept hg ?_⟩
  rcases hv : (Value.slice A n c).ownBlock with _ | b
  · exact .inl rfl
  · exact .inr fun e => hr b hv e.symm
theorem grown_of {w w' : World} (hb : Below w.heap.size w w') : w.grownBy w' none := ⟨hb.os, hb.tape, hb.output, hb.size, fun k hk _ => hb.block k hk⟩
theorem IsRow.on {w w' : World} {base : Nat} {v : Value} {zs : List Int} (h : IsRow w base v zs) (hb : Below w.heap.size w w') : IsRow w' base v zs := h.kept (grown_of hb) fun b _ e => by cases e
/-- The answers so far: those that stand, from the first one on that is not spoiled. -/
structure Rows (w : World) (D : Nat) (V : Value) (R : List (Value × List Int)) (s : Nat) : Prop where
  row : w.ownsRow (D + 1) 27 1 V R.length (R.map (·.1))
  own : ∀ i, s ≤ i → i < R.length → IsRow w (D + 1) (ansV R i) (ansZ R i)
  ap : ∀ i j, i < j → j < R.length → Apart (ansV R i) (ansV R j)
  av : ∀ i, i < R.length → Apart (ansV R i) V
theorem Apart.ne {v v2 : Value} (h : Apart v v2) {b : Nat} (hb : v2.ownBlock = some b) : v.ownBlock ≠ some b := fun e => h b e hb
section
variable {w w' : World} {D : Nat} {V : Value} {R : List (Value × List Int)} {s : Nat}
theorem Rows.on (h : Rows w D V R s) (hb : Below w.heap.size w w') : Rows w' D V R s := ⟨own_onR h.row hb, fun i h1 h2 => (h.own i h1 h2).on hb, h.ap, h.av⟩
/-- Another row is spoiled. -/
theorem Rows.aside (h : Rows w D V R s) {r : Option Nat} (hg : w.grownBy w' r) (hr : ∀ b, r = some b → b < D + 1) : Rows w' D V R s :=
  ⟨own_aside h.row hg hr, fun i h1 h2 => (h.own i h1 h2).kept hg fun b hb e => by have := ((h.own i h1 h2).lt b hb).1; have := hr b e; omega, h.ap, h.av⟩
/-- One of its own is spoiled. -/
theorem Rows.spoil (h : Rows w D V R s) (hs : s < R.length) (hg : w.grownBy w' (ansV R s).ownBlock) : Rows w' D V R (s + 1) := by
  refine ⟨h.row.kept hg ?_, fun i h1 h2 => (h.own i (by omega) h2).kept hg fun b hb e => (h.ap s i (by omega) h2).ne hb e, h.ap, h.av⟩
  rcases hv : V.ownBlock with _ | b
  · exact .inl rfl
  · exact .inr fun e => (h.av s hs).ne hv e.symm
/-- One more is appended. -/
theorem Rows.push {w1 : World} {V' : Value} {v : Value} {zs : List Int} {c : Array Value} {e : TypeId} {B : Nat} (h : Rows w D V R 0) (hv : IsRow w B v zs) (hB : D + 1 ≤ B) (hnew : ∀ i, i < R.length → Apart (ansV R i) v) (hnv : Apart V v)
    (hr : w1.ownsRow (D + 1) 27 1 V' (R.length + 1) (R.map (·.1) ++ [v])) (hg : (w.alloc (.cells c e)).grownBy w1 V.ownBlock) (hV : V'.ownBlock = V.ownBlock ∨ V'.ownBlock = some (w.heap.size + 1)) : Rows w1 D V' (R ++ [(v, zs)]) 0 := by
  have hv' : IsRow w (D + 1) v zs := by
    obtain ⟨A, n, c, rfl, hn, ho⟩ := hv
    exact ⟨A, n, c, rfl, hn, own_lower ho hB⟩
  have up : ∀ {u : Value} {ys : List Int}, IsRow w (D + 1) u ys → Apart u V → IsRow w1 (D + 1) u ys := fun {u ys} hu ha => by
    refine (hu.on ((Below.refl _ _).alloc (Nat.le_refl _) (.cells c e))).kept hg fun b hb e => ha b hb e
  have lv : ∀ {u : Value} {ys : List Int}, IsRow w (D + 1) u ys → Apart u V → Apart u V' := fun {u ys} hu ha b hb e => by
    rcases hV with h1 | h1
    · rw [h1] at e; exact ha b hb e
    · rw [h1] at e
      injection e with e
      have := (hu.lt b hb).2
      omega
  refine ⟨by rw [List.length_append, List.map_append]; exact hr, fun i _ hi => ?_, fun i j hij hj => ?_, fun i hi => ?_⟩
  · rw [List.length_append] at hi
    rcases Nat.lt_or_ge i R.length with h1 | h1
    · rw [ansV_app h1, ansZ_app h1]
      exact up (h.own i (by omega) h1) (h.av i h1)
    · have : i = R.length := by simp at hi; omega
      rw [this, ansV_last, ansZ_last]
      exact up hv' hnv.symm
  · rw [List.length_append] at hj
    rcases Nat.lt_or_ge j R.length with h1 | h1
    · rw [ansV_app (by omega), ansV_app h1]; exact h.ap i j hij h1
    · have : j = R.length := by simp at hj; omega
      rw [this, ansV_last, ansV_app (by omega)]
      exact hnew i (by omega)
  · rw [List.length_append] at hi
    rcases Nat.lt_or_ge i R.length with h1 | h1
    · rw [ansV_app h1]; exact lv (h.own i (by omega) h1) (h.av i h1)
    · have : i = R.length := by simp at hi; omega
      rw [this, ansV_last]; exact lv hv' hnv.symm
end
theorem ansV_app2 {R N : List (Value × List Int)} {i : Nat} (h : R.length ≤ i) : ansV (R ++ N) i = ansV N (i - R.length) := by
  unfold ansV
  rw [List.getD_eq_getElem?_getD, List.getD_eq_getElem?_getD, List.getElem?_append_right h]
theorem ansZ_app2 {R N : List (Value × List Int)} {i : Nat} (h : R.length ≤ i) : ansZ (R ++ N) i = ansZ N (i - R.length) := by
  unfold ansZ
  rw [List.getD_eq_getElem?_getD, List.getD_eq_getElem?_getD, List.getElem?_append_right h]
theorem ansV_app1 {R N : List (Value × List Int)} {i : Nat} (h : i < R.length) : ansV (R ++ N) i = ansV R i := by
  unfold ansV
  rw [List.getD_eq_getElem?_getD, List.getD_eq_getElem?_getD, List.getElem?_append_left h]
theorem ansZ_app1 {R N : List (Value × List Int)} {i : Nat} (h : i < R.length) : ansZ (R ++ N) i = ansZ R i := by
  unfold ansZ
  rw [List.getD_eq_getElem?_getD, List.getD_eq_getElem?_getD, List.getElem?_append_left h]
/-- More are appended. -/
theorem Rows.more {w w1 : World} {D : Nat} {V V' : Value} {R N : List (Value × List Int)} {c : Array Value} {e : TypeId} {B : Nat} (h : Rows w D V R 0) (hv : ∀ i, i < N.length → IsRow w B (ansV N i) (ansZ N i)) (hB : D + 1 ≤ B) (hnn : ∀ i j, i < j → j < N.length → Apart (ansV N i) (ansV N j)) (hnew : ∀ i j, i < R.length → j < N.length → Apart (ansV R i) (ansV N j)) (hnv : ∀ j, j < N.length → Apart V (ansV N j))
    (hr : w1.ownsRow (D + 1) 27 1 V' (R.length + N.length) (R.map (·.1) ++ N.map (·.1))) (hg : (w.alloc (.cells c e)).grownBy w1 V.ownBlock) (hV : V'.ownBlock = V.ownBlock ∨ V'.ownBlock = some (w.heap.size + 1)) : Rows w1 D V' (R ++ N) 0 := by
  have hv' : ∀ i, i < N.length → IsRow w (D + 1) (ansV N i) (ansZ N i) := fun i hi => by
    obtain ⟨A, n, c, e, hn, ho⟩ := hv i hi
    exact ⟨A, n, c, e, hn, own_lower ho hB⟩
  have up : ∀ {u : Value} {ys : List Int}, IsRow w (D + 1) u ys → Apart u V → IsRow w1 (D + 1) u ys := fun {u ys} hu ha => by
    refine (hu.on ((Below.refl _ _).alloc (Nat.le_refl _) (.cells c e))).kept hg fun b hb e => ha b hb e
  have lv : ∀ {u : Value} {ys : List Int}, IsRow w (D + 1) u ys → Apart u V → Apart u V' := fun {u ys} hu ha b hb e => by
    rcases hV with h1 | h1
    · rw [h1] at e; exact ha b hb e
    · rw [h1] at e
      injection e with e
      have := (hu.lt b hb).2
      omega
  refine ⟨by rw [List.length_append, List.map_append]; exact hr, fun i _ hi => ?_, fun i j hij hj => ?_, fun i hi => ?_⟩
  · rw [List.length_append] at hi
    rcases Nat.lt_or_ge i R.length with h1 | h1
    · rw [ansV_app1 h1, ansZ_app1 h1]
      exact up (h.own i (by omega) h1) (h.av i h1)
    · rw [ansV_app2 h1, ansZ_app2 h1]
      exact up (hv' _ (by omega)) (hnv _ (by omega)).symm
  · rw [List.length_append] at hj
    rcases Nat.lt_or_ge j R.length with h1 | h1
    · rw [ansV_app1 (by omega), ansV_app1 h1]; exact h.ap i j hij h1
    · rcases Nat.lt_or_ge i R.length with h2 | h2
      · rw [ansV_app2 h1, ansV_app1 h2]
        exact hnew i _ h2 (by omega)
      · rw [ansV_app2 h1, ansV_app2 h2]
        exact hnn _ _ (by omega) (by omega)
  · rw [List.length_append] at hi
    rcases Nat.lt_or_ge i R.length with h1 | h1
    · rw [ansV_app1 h1]; exact lv (h.own i (by omega) h1) (h.av i h1)
    · rw [ansV_app2 h1]; exact lv (hv' _ (by omega)) (hnv _ (by omega)).symm
/-- The answers in the variable D. -/
structure KS (w : World) (D : Nat) (R : List (Value × List Int)) : Prop where
  is : ∃ A c, w.cell? ⟨D, 0, none⟩ = some (.slice A R.length c) ∧ Rows w D (.slice A R.length c) R 0
  of : w.frozen? ⟨D, 0, none⟩ = false
section
variable {w w' : World} {D : Nat} {R : List (Value × List Int)}
theorem KS.lt (h : KS w D R) : D < w.heap.size := by
  obtain ⟨A, c, hc, _⟩ := h.is
  exact World.block_lt_of_cell? w _ hc
theorem KS.on (h : KS w D R) (hb : Below w.heap.size w w') : KS w' D R := by
  have dl := h.lt
  obtain ⟨A, c, hc, hr⟩ := h.is
  exact ⟨⟨A, c, (hb.cell (p := ⟨D, 0, none⟩) dl).trans hc, hr.on hb⟩, (hb.frozen (p := ⟨D, 0, none⟩) dl).trans h.of⟩
theorem KS.start (w : World) : KS (w.alloc (.cells #[.slice none 0 0] 77)) w.heap.size [] :=
  ⟨⟨none, 0, World.cell?_alloc_at _ _ _ _ rfl, ⟨World.ownsRow_nil _ _ _ _, fun i _ hi => absurd hi (by simp), fun i j _ hj => absurd hj (by simp), fun i hi => absurd hi (by simp)⟩⟩, World.frozen?_alloc_at _ _ _ _ rfl⟩
theorem KS.sent {w0 w1 : World} {N : List (Value × List Int)} (h : KS w D R) {B : Nat} (hv : ∀ i, i < N.length → IsRow w B (ansV N i) (ansZ N i)) (hnn : ∀ i j, i < j → j < N.length → Apart (ansV N i) (ansV N j)) (hB : D + 1 ≤ B) (hold : KS w0 D R) (h0 : Below w0.heap.size w0 w) (h0B : w0.heap.size ≤ B) {A A' : Option Addr} {c c' : Nat} (hc : w.cell? ⟨D, 0, none⟩ = some (.slice A R.length c)) (hr : Rows w D (.slice A R.length c) R 0)
    {cs : Array Value} {e : TypeId} (h1 : w1.ownsRow (D + 1) 27 1 (.slice A' (R.length + N.length) c') (R.length + N.length) (R.map (·.1) ++ N.map (·.1))) (g1 : (w.alloc (.cells cs e)).grownBy w1 (Value.slice A R.length c).ownBlock) (b1 : (Value.slice A' (R.length + N.length) c').ownBlock = (Value.slice A R.length c).ownBlock ∨ (Value.slice A' (R.length + N.length) c').ownBlock = some (w.heap.size + 1)) :
    w1.cell? ⟨D, 0, none⟩ = some (.slice A R.length c) ∧ w1.frozen? ⟨D, 0, none⟩ = false ∧ KS (w1.setCell ⟨D, 0, none⟩ (.slice A' (R.length + N.length) c')) D (R ++ N) ∧ Below D w (w1.setCell ⟨D, 0, none⟩ (.slice A' (R.length + N.length) c')) := by
  have dl : D < w.heap.size := World.block_lt_of_cell? w _ hc
  have vD : (Value.slice A R.length c).ownBlock ≠ some D := fun e => by have := (hr.row.lt _ e).1; omega
  have bD : w1.heap[D]? = w.heap[D]? := by rw [g1.block D (by simp; omega) (fun e => vD e.symm), heap_alloc_old_ _ _ dl]
  have c1 : w1.cell? ⟨D, 0, none⟩ = some (.slice A R.length c) := (World.cell?_of_block bD).trans hc
  have f1 : w1.frozen? ⟨D, 0, none⟩ = false := (World.frozen?_of_block bD).trans h.of
  have hnew : ∀ i j, i < R.length → j < N.length → Apart (ansV R i) (ansV N j) := fun i j hi hj b hb e => by
    obtain ⟨A0, c0, hc0, hr0⟩ := hold.is
    have := ((hr0.own i (by omega) hi).lt b hb).2
    have := ((hv j hj).lt b e).1
    omega
  have hnv : ∀ j, j < N.length → Apart (.slice A R.length c) (ansV N j) := fun j hj b hb e => by
    obtain ⟨A0, c0, hc0, hr0⟩ := hold.is
    have d0 := hold.lt
    have e0 : w.cell? ⟨D, 0, none⟩ = some (.slice A0 R.length c0) := (h0.cell (p := ⟨D, 0, none⟩) d0).trans hc0
    rw [hc] at e0
    injection e0 with e0
    rw [e0] at hb
    have := (hr0.row.lt b hb).2
    have := ((hv j hj).lt b e).1
    omega
  have RW := hr.more hv hB hnn hnew hnv h1 g1 b1
  refine ⟨c1, f1, ⟨⟨A', c', ?_, ?_⟩, by rw [World.frozen?_setCell]; exact f1⟩, ?_⟩
  · rw [List.length_append]
    exact World.cell?_setCell_same _ _ _ c1
  · rw [List.length_append]
    refine RW.aside (grown_set w1 D 0 _) fun b hb => ?_
    injection hb with hb
    omega
  · have bb : Below D w w1 := ((Below.refl D w).alloc (by omega) (.cells cs e)).grown g1 (by simp; omega) (fun b hb => by have := (hr.row.lt b hb).1; omega)
    exact bb.setCell (p := ⟨D, 0, none⟩) (Nat.le_refl _) _
end
theorem one_row {w : World} {B : Nat} {v : Value} {zs : List Int} (h : IsRow w B v zs) : (∀ i, i < [(v, zs)].length → IsRow w B (ansV [(v, zs)] i) (ansZ [(v, zs)] i)) ∧ ∀ i j, i < j → j < [(v, zs)].length → Apart (ansV [(v, zs)] i) (ansV [(v, zs)] j) := by
  refine ⟨fun i hi => ?_, fun i j h1 h2 => ?_⟩
  · have : i = 0 := by simpa using hi
    subst this
    exact h
  · have h2' : j < 1 := h2
    omega
theorem two_rows {w : World} {B : Nat} {v v2 : Value} {zs zs2 : List Int} (h : IsRow w B v zs) (h2 : IsRow w B v2 zs2) (ha : Apart v v2) : (∀ i, i < [(v, zs), (v2, zs2)].length → IsRow w B (ansV [(v, zs), (v2, zs2)] i) (ansZ [(v, zs), (v2, zs2)] i)) ∧ ∀ i j, i < j → j < [(v, zs), (v2, zs2)].length → Apart (ansV [(v, zs), (v2, zs2)] i) (ansV [(v, zs), (v2, zs2)] j) := by
  refine ⟨fun i hi => ?_, fun i j h1 h2 => ?_⟩
  · have hi' : i < 2 := hi
    rcases (show i = 0 ∨ i = 1 by omega) with rfl | rfl
    · exact h
    · exact h2
  · have h2' : j < 2 := h2
    have e1 : i = 0 := by omega
    have e2 : j = 1 := by omega
    subst e1 e2
    exact ha
theorem keepC {w0 w : World} {D : Nat} {R : List (Value × List Int)} {A : Option Addr} {n c : Nat} {zs : List Int} (er : Int) (hold : KS w0 D R) (h0 : Below w0.heap.size w0 w) (ho : w.ownsRow w0.heap.size 3 1 (.slice A n c) n (ints zs)) (hn : n ≤ 61) (hl : R.length ≤ 1000) :
    Calls Try.prog 43 #[.slice A n c, .int .i64 er, .pointer (some ⟨D, 0, none⟩)] w fun e w' => e = .returned (.tuple #[]) ∧ KS w' D (R ++ [(.slice A n c, zs)]) ∧ Below D w w' := by
  have K := Lib.hid (hold.on h0)
  obtain ⟨A0, c0, hc, hr⟩ := K.out.is
  have of := K.out.of
  have hv : Hid (IsRow w w0.heap.size (.slice A n c) zs) := Lib.hid ⟨A, n, c, rfl, hn, ho⟩
  have HC := Lib.hid hc
  have HR := Lib.hid hr
  have H0 := Lib.hid h0
  have HOLD := Lib.hid hold
  have dl := (hold.on h0).lt
  obtain ⟨m, hm⟩ : ∃ m, R.length = m := ⟨_, rfl⟩
  have HM := Lib.hid hm
  rw [hm] at hc hl
  have ROW : Hid (w.ownsRow (D + 1) 27 1 (.slice A0 m c0) m (R.map (·.1))) := Lib.hid (by have := hr.row; rw [hm] at this; exact this)
  clear hr ho h0 hold hm
  go_enter Try.func43, Try.ntmps43
  go_wp2_with (at_builtin; refine wpList_pushE rfl (.tmp 5) (.tmp 7) _ rfl elemLL _ (by first | rfl | simp) (D + 1) 1 (.slice A0 m c0) m (R.map (·.1)) [.slice A n c] rfl (by intro u hu; simp at hu; subst hu; rfl) (by rfl) (by rfl) ROW.out (by omega) (by unfold maxLen; omega) (by omega) ?_; intro v' w1 o1 g1 b1; obtain ⟨A', c', rfl, hc'⟩ := own_form o1; rw [← HM.out] at o1 g1 b1; obtain ⟨k1, k2, k3, k4⟩ := K.out.sent (N := [(.slice A n c, zs)]) (one_row hv.out).1 (one_row hv.out).2 HOLD.out.lt HOLD.out H0.out (Nat.le_refl _) HC.out HR.out o1 g1 b1; have K3 := Lib.hid k3; have K4 := Lib.hid k4; clear k3 k4 o1 g1 b1)
  go_end0
  exact ⟨rfl, by have := K3.out; rw [HM.out] at this; exact this, by have := K4.out; rw [HM.out] at this; exact this⟩
theorem Rows.at_ {w : World} {D n c : Nat} {A : Option Addr} {R : List (Value × List Int)} {s : Nat} (h : Rows w D (.slice A n c) R s) (hn : R.length = n) {j : Nat} (hj : j < n) : ∃ b off, A = some ⟨b, off, none⟩ ∧ b < w.heap.size ∧ w.cell? ⟨b, off + j, none⟩ = some (ansV R j) := by
  have r := h.row
  rw [hn] at r
  exact (Sl.of_own r).at_ hj (ans_get (by omega))
theorem Rows.nil (w : World) (D : Nat) : Rows w D (.slice none 0 0) [] 0 := ⟨World.ownsRow_nil _ _ _ _, fun i _ hi => absurd hi (by simp), fun i j _ hj => absurd hj (by simp), fun i hi => absurd hi (by simp)⟩
/-- A fresh one is appended. -/
theorem Rows.fresh {w wc w1 : World} {D : Nat} {V V' v : Value} {R : List (Value × List Int)} {zs : List Int} {c : Array Value} {e : TypeId} (h : Rows w D V R 0) (hD : D + 1 ≤ w.heap.size) (hb : Below w.heap.size w wc) (hv : IsRow wc w.heap.size v zs)
    (hr : w1.ownsRow (D + 1) 27 1 V' (R.length + 1) (R.map (·.1) ++ [v])) (hg : (wc.alloc (.cells c e)).grownBy w1 V.ownBlock) (hV : V'.ownBlock = V.ownBlock ∨ V'.ownBlock = some (wc.heap.size + 1)) : Rows w1 D V' (R ++ [(v, zs)]) 0 := by
  have o := one_row hv
  refine (h.on hb).more (N := [(v, zs)]) o.1 hD o.2 (fun i j hi hj b h1 h2 => ?_) (fun j hj b h1 h2 => ?_) hr hg hV
  · have := ((h.own i (by omega) hi).lt b h1).2
    have := ((o.1 j hj).lt b h2).1
    omega
  · have := (h.row.lt b h1).2
    have := ((o.1 j hj).lt b h2).1
    omega
/-- line.Run: two answers. -/
def Fr2 (W : World) (e : Ending) (w' : World) : Prop := ∃ A n c zs A2 n2 c2 zs2 er, e = .returned (.tuple #[.slice A n c, .slice A2 n2 c2, .int .i64 er]) ∧ w'.ownsRow W.heap.size 3 1 (.slice A n c) n (ints zs) ∧ w'.ownsRow W.heap.size 3 1 (.slice A2 n2 c2) n2 (ints zs2) ∧ Apart (.slice A n c) (.slice A2 n2 c2) ∧ n ≤ 61 ∧ n2 ≤ 61 ∧ Below W.heap.size W w'
theorem fr_line (A : Option Addr) (n c : Nat) (f : List Int) (r : Int) (W : World) (hs : Sl W W.heap.size A n (ints f)) (hn : n ≤ 9223372036854775807) : Calls Try.prog 58 #[.slice A n c, .int .i64 r] W (Fr2 W) := by
  have hl := hs.int_len
  by_cases h : lineOk f r
  · have hn60 : n ≤ 60 := by have := h.1.1; omega
    refine (lrun_ok A n c f r W h hs).mono ?_
    rintro e w' ⟨A1, c1, A2, c2, rfl, _, _, hb, _, _, o1, o2, ap⟩
    exact ⟨A1, n, c1, _, A2, n, c2, _, 0, rfl, o1, o2, ap, by omega, by omega, hb⟩
  · refine (lrun_bad A n c f r W _ h hs hn).mono ?_
    rintro e w' ⟨rfl, rfl⟩
    exact ⟨none, 0, 0, [], none, 0, 0, [], _, rfl, World.ownsRow_nil _ _ _ _, World.ownsRow_nil _ _ _ _, Apart.nil _, by omega, by omega, Below.refl _ _⟩
end Go.Proofs.Ytpifknmoimlpoaa
