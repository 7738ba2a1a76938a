/- One table of numbers that the call has made. -/
import Derived.Test.YtpifknmoimlpoaaElems
import Derived.Test.YtpifknmoimlpoaaOwnT
import Derived.Laws.MakeOwn
set_option linter.unusedVariables false
namespace Go.Proofs.Ytpifknmoimlpoaa
open Go.RowKit
theorem ints_madeR (n : Nat) : (madeCells (Value.int .i64 0).cells (n * 1)).toList = ints (tab n fun _ => 0) := by
  rw [show (Value.int .i64 0).cells = #[Value.int .i64 0] from rfl, toList_madeCells_one, Nat.mul_one]
  refine List.ext_getElem (by simp [ints, tab]) fun i h1 h2 => ?_
  simp [ints, tab]
theorem makeInts_R (n : Nat) (hn : n ≤ 1000000) (w : World) : (Instr.makeSlice 27 (.int .i64 (n : Int)) (.int .i64 (n : Int))).run Try.prog w = .ok (.slice (some ⟨w.heap.size, 0, none⟩) n n) (w.alloc (.cells (ints (tab n fun _ => 0)).toArray 3)) := by
  obtain ⟨ib, hib, hib0, hib1, hib2⟩ := elemInt.info
  have h := run_make (P := Try.prog) w 27 3 ib (.int .i64 0) elemInt.under hib hib0 .i64 .i64 n n (by omega) (Int.le_refl _) (by rw [hib2]; omega) (by omega)
  rw [hib1, Int.toNat_natCast] at h
  rw [h]
  have e : (madeCells (Value.int .i64 0).cells (n * 1)) = (ints (tab n fun _ => 0)).toArray := by
    rw [← ints_madeR]
  rw [e]
theorem own_keepR {w w' : World} {base size n cap g D : Nat} {e : TypeId} {xs : List Value} (h : w.ownsRow base e size (.slice (some ⟨g, 0, none⟩) n cap) n xs) (hb : Below D w w') (hg : g < D) : w'.ownsRow base e size (.slice (some ⟨g, 0, none⟩) n cap) n xs := by
  refine ⟨h.1, ?_⟩
  rcases h.2 with ⟨h', _⟩ | ⟨g', cap', cur, h', h1, h2, h3⟩
  · simp at h'
  · refine .inr ⟨g', cap', cur, h', h1, ?_, h3⟩
    injection h' with h4
    injection h4 with h4
    injection h4 with h4
    subst h4
    exact (hb.block g hg).trans h2
theorem own_onR {w w' : World} {base : Nat} {e : TypeId} {size : Nat} {v : Value} {n : Nat} {xs : List Value} (h : w.ownsRow base e size v n xs) (hb : Below w.heap.size w w') : w'.ownsRow base e size v n xs :=
  h.kept ⟨hb.os, hb.tape, hb.output, hb.size, fun k hk _ => hb.block k hk⟩ (row := none) (by rcases v.ownBlock with _ | k; exact .inl rfl; exact .inr (by simp))
/-- One table that is made in world w0; the blocks below D are kept by what comes. -/
structure OneR (w0 wr : World) (D n gl : Nat) (u : Nat → Int) : Prop where
  l : wr.ownsRow w0.heap.size 3 1 (.slice (some ⟨gl, 0, none⟩) n n) n (ints (tab n u))
  bel : Below w0.heap.size w0 wr
  lo : w0.heap.size ≤ gl
  hi : gl < D
  sz : D ≤ wr.heap.size
theorem OneR.on {w0 wr w' : World} {D n gl : Nat} {u : Nat → Int} (h : OneR w0 wr D n gl u) (hb : Below D wr w') : OneR w0 w' D n gl u :=
  ⟨own_keepR h.l hb h.hi, h.bel.trans (hb.mono (by have := h.lo; have := h.hi; omega)), h.lo, h.hi, Nat.le_trans h.sz hb.size⟩
theorem OneR.congr {w0 wr : World} {D n gl : Nat} {u u' : Nat → Int} (h : OneR w0 wr D n gl u) (hu : ∀ i, i < n → u i = u' i) : OneR w0 wr D n gl u' :=
  ⟨by rw [← tab_congr hu]; exact h.l, h.bel, h.lo, h.hi, h.sz⟩
theorem OneR.set {w0 wr : World} {D n gl : Nat} {u : Nat → Int} (h : OneR w0 wr D n gl u) {i : Nat} (hi : i < n) (x : Int) : OneR w0 (wr.setCell ⟨gl, i, none⟩ (.int .i64 x)) D n gl (fun k => if k = i then x else u k) := by
  refine ⟨?_, h.bel.setCell (p := ⟨gl, i, none⟩) h.lo _, h.lo, h.hi, by simpa using h.sz⟩
  have := (h.l.stored i (.int .i64 x)).1
  rwa [ints_set, tab_set _ _ _ hi] at this
theorem OneR.cl {w0 wr : World} {D n gl : Nat} {u : Nat → Int} (h : OneR w0 wr D n gl u) {k : Nat} (hk : k < n) : wr.cell? ⟨gl, k, none⟩ = some (.int .i64 (u k)) ∧ wr.frozen? ⟨gl, k, none⟩ = false := by
  have := h.l.cellAt k (by omega)
  rw [ints_get (by rw [tab_len]; exact hk), tab_get _ hk] at this
  exact ⟨this, h.l.frozenAt k⟩
theorem OneR.drew {w0 wr : World} {D n gl : Nat} {u : Nat → Int} (h : OneR w0 wr D n gl u) : OneR w0 wr.drew D n gl u := h.on (Below.refl _ _).drew
theorem oneR_made (w : World) (n : Nat) (hn : n ≤ 1000) : OneR w (w.alloc (.cells (ints (tab n fun _ => 0)).toArray 3)) (w.heap.size + 1) n w.heap.size (fun _ => 0) := by
  have hl : (ints (tab n fun _ => 0)).toArray.size = n * 1 := by simp [ints, tab]
  exact ⟨World.ownsRow_lit w (ints (tab n fun _ => 0)).toArray n (Nat.le_refl _) (by unfold maxLen; omega) hl, (Below.refl _ _).alloc (Nat.le_refl _) _, Nat.le_refl _, by omega, by simp⟩
end Go.Proofs.Ytpifknmoimlpoaa
