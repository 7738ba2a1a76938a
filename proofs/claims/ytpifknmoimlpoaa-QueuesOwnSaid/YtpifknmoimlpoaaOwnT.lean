/- A table that the call makes and fills; what a function that answers with a slice and an error leaves. -/
import Derived.Test.YtpifknmoimlpoaaElems
import Derived.Test.YtpifknmoimlpoaaCurveP
set_option linter.unusedVariables false
namespace Go.Proofs.Ytpifknmoimlpoaa
open Go.RowKit
theorem own_lower {w : World} {base base' n size : Nat} {e : TypeId} {v : Value} {xs : List Value} (h : w.ownsRow base e size v n xs) (hb : base' ≤ base) : w.ownsRow base' e size v n xs := by
  refine ⟨h.1, ?_⟩
  rcases h.2 with h' | ⟨g, cap, cur, h1, h2, h3⟩
  · exact .inl h'
  · exact .inr ⟨g, cap, cur, h1, Nat.le_trans hb h2, h3⟩
/-- The answer: a slice that reads as zs, of n elements, and an error; old memory is as it was. -/
def RetSl (W : World) (n : Nat) (zs : List Int) (er : Int) (e : Ending) (w' : World) : Prop :=
  ∃ A c, e = .returned (.tuple #[.slice A n c, .int .i64 er]) ∧ Sl w' w'.heap.size A n (ints zs) ∧ n ≤ c ∧ Below W.heap.size W w' ∧ w'.ownsRow W.heap.size 3 1 (.slice A n c) n (ints zs)
theorem RetSl.nil {W w' : World} {n : Nat} {zs : List Int} {er er' : Int} {r : List Int × Int} (h : r = (zs, er)) (hn : zs.length = n) (hr : r = ([], er')) (hb : Below W.heap.size W w') :
    RetSl W n zs er (.returned (.tuple #[.slice none 0 0, .int .i64 er'])) w' := by
  rw [hr] at h
  injection h with h1 h2
  subst h1 h2
  obtain rfl : n = 0 := hn.symm
  exact ⟨none, 0, rfl, Sl.nil, Nat.le_refl _, hb, World.ownsRow_nil _ _ _ _⟩
/-- The table u of n elements, the first that the call has made. -/
structure Own (W wr : World) (n : Nat) (u : Nat → Int) : Prop where
  row : wr.ownsRow W.heap.size 3 1 (.slice (some ⟨W.heap.size, 0, none⟩) n n) n (ints (tab n u))
  bel : Below W.heap.size W wr
theorem Own.cell {W wr : World} {n : Nat} {u : Nat → Int} (h : Own W wr n u) {k : Nat} (hk : k < n) : wr.cell? ⟨W.heap.size, k, none⟩ = some (.int .i64 (u k)) := by
  have := h.row.cellAt k (by omega)
  rwa [ints_get (by rw [tab_len]; exact hk), tab_get _ hk] at this
theorem Own.frozen {W wr : World} {n : Nat} {u : Nat → Int} (h : Own W wr n u) (k : Nat) : wr.frozen? ⟨W.heap.size, k, none⟩ = false := h.row.frozenAt k
theorem Own.store {W wr : World} {n : Nat} {u v : Nat → Int} (h : Own W wr n u) {k : Nat} {x : Int} (hk : k < n) (hv : ∀ i, i < n → v i = if i = k then x else u i) : Own W (wr.setCell ⟨W.heap.size, k, none⟩ (.int .i64 x)) n v := by
  refine ⟨?_, h.bel.setCell (Nat.le_refl _) _⟩
  have := (h.row.stored k (.int .i64 x)).1
  rw [ints_set, tab_set _ _ _ hk, ← tab_congr hv] at this
  exact this
theorem Own.congr {W wr : World} {n : Nat} {u v : Nat → Int} (h : Own W wr n u) (hv : ∀ i, i < n → u i = v i) : Own W wr n v := by
  refine ⟨?_, h.bel⟩
  rw [← tab_congr hv]
  exact h.row
theorem Own.drewN {W wr : World} {n : Nat} {u : Nat → Int} (h : Own W wr n u) (q : Nat) : Own W (wr.drewN q) n u := ⟨h.row, ⟨h.bel.os, h.bel.tape, h.bel.output, h.bel.size, h.bel.block⟩⟩
theorem Own.drew {W wr : World} {n : Nat} {u : Nat → Int} (h : Own W wr n u) : Own W wr.drew n u := ⟨h.row, h.bel.drew⟩
theorem Own.sl {W wr : World} {n : Nat} {u : Nat → Int} (h : Own W wr n u) : Sl wr wr.heap.size (some ⟨W.heap.size, 0, none⟩) n (ints (tab n u)) := Sl.of_own h.row
theorem Own.old {W wr : World} {n : Nat} {u : Nat → Int} (h : Own W wr n u) {m : Nat} {A : Option Addr} {xs : List Value} (hs : Sl W W.heap.size A m xs) : Sl wr W.heap.size A m xs := hs.below h.bel
theorem ints_made (n : Nat) : (madeCells (Value.int .i64 0).cells (n * 1)).toList = ints (tab n fun _ => 0) := by
  rw [show (Value.int .i64 0).cells = #[Value.int .i64 0] from rfl, toList_madeCells_one, Nat.mul_one]
  refine List.ext_getElem (by simp [ints, tab]) fun i h1 h2 => ?_
  simp [ints, tab]
theorem Own.made {W w1 : World} {n : Nat} (h : w1.ownsRow W.heap.size 3 1 (.slice (some ⟨W.heap.size, 0, none⟩) n n) n (madeCells (Value.int .i64 0).cells (n * 1)).toList) (hg : W.grownBy w1 none) : Own W w1 n (fun _ => 0) :=
  ⟨by rw [ints_made] at h; exact h, (Below.refl _ _).grown hg (Nat.le_refl _) (fun k hk => by cases hk)⟩
/-- 'make([]int, n)' where the call begins. -/
theorem wpList_makeInts {w : World} {ops : Array Oper} {rest : List Oper} {o : Oper} {a : Act} {Q : Exit → Act → World → Prop} (hgd : o.guard = none) (l c : Operand)
    (ho : o.op = Op.makeSlice 27 l c) (L C : Int) (n : Nat) (hl : a.eval l = .int .i64 L) (hc : a.eval c = .int .i64 C) (hL : L = n) (hC : C = n) (hn : n ≤ 1099511627776)
    (h : ∀ w1, Own w w1 n (fun _ => 0) → wpList Try.prog ops Q rest (a.put o.dst (.slice (some ⟨w.heap.size, 0, none⟩) n n)) w1) :
    wpList Try.prog ops Q (o :: rest) a w := by
  obtain ⟨ib, hib, hib0, hib1, hib2⟩ := elemInt.info
  exact wpList_make_full w hgd l c _ ho w.heap.size _ ib (.int .i64 0) 1 elemInt.under hib hib0 hib1 .i64 .i64 L C n hl hc hL hC (by rw [hib2]; omega) (by unfold maxLen; omega) (Nat.le_refl _) fun w1 h1 h2 => h w1 (Own.made h1 h2)
theorem Below.to {W w1 w2 : World} (h : Below W.heap.size W w1) (k : Below w1.heap.size w1 w2) : Below W.heap.size W w2 := h.trans (k.mono h.size)
end Go.Proofs.Ytpifknmoimlpoaa
