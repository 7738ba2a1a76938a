/- world.World: its two blocks; New. -/
import Derived.Test.YtehdphkaknjlnaaWorldP
import Derived.Test.YtehdphkaknjlnaaOwnT
import Derived.Deep.RegionLaw
import Derived.Laws.MakeOwn
set_option linter.unusedVariables false
namespace Go.Proofs.Ytehdphkaknjlnaa
open Go.RowKit
/-- The blocks of a World: itself, and its peers. -/
structure WB (w : World) (bw bp n : Nat) (rate unit : Int) (L P : Nat → Int) (D : Nat → Bool) (t : Nat) : Prop where
  c0 : w.cell? ⟨bw, 0, none⟩ = some (.int .i64 rate)
  c1 : w.cell? ⟨bw, 1, none⟩ = some (.int .i64 unit)
  c2 : w.cell? ⟨bw, 2, none⟩ = some (.slice (some ⟨bp, 0, none⟩) n n)
  c3 : w.cell? ⟨bw, 3, none⟩ = some (.int .i64 t)
  p0 : ∀ i, i < n → w.cell? ⟨bp, i * 3, none⟩ = some (.int .i64 (L i))
  p1 : ∀ i, i < n → w.cell? ⟨bp, i * 3 + 1, none⟩ = some (.int .i64 (P i))
  p2 : ∀ i, i < n → w.cell? ⟨bp, i * 3 + 2, none⟩ = some (.bool (D i))
  fw : ∀ q, w.frozen? ⟨bw, q, none⟩ = false
  fp : ∀ q, w.frozen? ⟨bp, q, none⟩ = false
  ne : bw ≠ bp
  hw : bw < w.heap.size
  hp : bp < w.heap.size
/-- Of all blocks that were there, only these two may have turned. -/
structure Only (bw bp : Nat) (w w' : World) : Prop where
  os : w'.os = w.os
  tape : w'.tape = w.tape
  output : w'.output = w.output
  size : w.heap.size ≤ w'.heap.size
  block : ∀ k, k < w.heap.size → k ≠ bw → k ≠ bp → w'.heap[k]? = w.heap[k]?
theorem Only.refl (bw bp : Nat) (w : World) : Only bw bp w w := ⟨rfl, rfl, rfl, Nat.le_refl _, fun _ _ _ _ => rfl⟩
theorem Only.trans {bw bp : Nat} {a b c : World} (h : Only bw bp a b) (k : Only bw bp b c) : Only bw bp a c :=
  ⟨k.os.trans h.os, k.tape.trans h.tape, k.output.trans h.output, Nat.le_trans h.size k.size, fun i hi h1 h2 => (k.block i (Nat.lt_of_lt_of_le hi h.size) h1 h2).trans (h.block i hi h1 h2)⟩
theorem Only.of_below {bw bp : Nat} {w w' : World} (h : Below w.heap.size w w') : Only bw bp w w' := ⟨h.os, h.tape, h.output, h.size, fun k hk _ _ => h.block k hk⟩
theorem Only.below {bw bp B : Nat} {w w' : World} (h : Only bw bp w w') (h1 : B ≤ bw) (h2 : B ≤ bp) (hB : B ≤ w.heap.size) : Below B w w' := ⟨h.os, h.tape, h.output, h.size, fun k hk => h.block k (by omega) (by omega) (by omega)⟩
theorem Only.set {bw bp : Nat} {a w : World} (h : Only bw bp a w) (p : Addr) (hp : p.block = bw ∨ p.block = bp) (v : Value) : Only bw bp a (w.setCell p v) :=
  h.trans ⟨rfl, rfl, rfl, by simp [World.setCell], fun k hk h1 h2 => Below.heap_setCell _ _ _ _ (by omega)⟩
theorem Only.drewN {bw bp : Nat} {a w : World} (h : Only bw bp a w) (n : Nat) : Only bw bp a (w.drewN n) := h.trans (Only.of_below (bel_drewN (Below.refl _ _) n))
theorem Only.drew {bw bp : Nat} {a w : World} (h : Only bw bp a w) : Only bw bp a w.drew := h.trans (Only.of_below (Below.refl _ _).drew)
theorem Only.alloc {bw bp : Nat} {a w : World} (h : Only bw bp a w) (o : Obj) : Only bw bp a (w.alloc o) := h.trans (Only.of_below ((Below.refl _ _).alloc (Nat.le_refl _) o))
theorem WB.on {w w' : World} {bw bp n : Nat} {rate unit : Int} {L P : Nat → Int} {D : Nat → Bool} {t : Nat} (h : WB w bw bp n rate unit L P D t) (hb : Below w.heap.size w w') : WB w' bw bp n rate unit L P D t :=
  ⟨(hb.cell (p := ⟨bw, 0, none⟩) h.hw).trans h.c0, (hb.cell (p := ⟨bw, 1, none⟩) h.hw).trans h.c1, (hb.cell (p := ⟨bw, 2, none⟩) h.hw).trans h.c2, (hb.cell (p := ⟨bw, 3, none⟩) h.hw).trans h.c3,
    fun i hi => (hb.cell (p := ⟨bp, i * 3, none⟩) h.hp).trans (h.p0 i hi), fun i hi => (hb.cell (p := ⟨bp, i * 3 + 1, none⟩) h.hp).trans (h.p1 i hi), fun i hi => (hb.cell (p := ⟨bp, i * 3 + 2, none⟩) h.hp).trans (h.p2 i hi),
    fun q => (hb.frozen (p := ⟨bw, q, none⟩) h.hw).trans (h.fw q), fun q => (hb.frozen (p := ⟨bp, q, none⟩) h.hp).trans (h.fp q), h.ne, Nat.lt_of_lt_of_le h.hw hb.size, Nat.lt_of_lt_of_le h.hp hb.size⟩
theorem WB.drewN {w : World} {bw bp n : Nat} {rate unit : Int} {L P : Nat → Int} {D : Nat → Bool} {t : Nat} (h : WB w bw bp n rate unit L P D t) (k : Nat) : WB (w.drewN k) bw bp n rate unit L P D t := h.on (bel_drewN (Below.refl _ _) k)
theorem WB.drew {w : World} {bw bp n : Nat} {rate unit : Int} {L P : Nat → Int} {D : Nat → Bool} {t : Nat} (h : WB w bw bp n rate unit L P D t) : WB w.drew bw bp n rate unit L P D t := h.on (Below.refl _ _).drew
theorem WB.alloc {w : World} {bw bp n : Nat} {rate unit : Int} {L P : Nat → Int} {D : Nat → Bool} {t : Nat} (h : WB w bw bp n rate unit L P D t) (o : Obj) : WB (w.alloc o) bw bp n rate unit L P D t := h.on ((Below.refl _ _).alloc (Nat.le_refl _) o)
theorem WB.congr {w : World} {bw bp n : Nat} {rate unit : Int} {L P L' P' : Nat → Int} {D D' : Nat → Bool} {t : Nat} (h : WB w bw bp n rate unit L P D t) (hL : ∀ i, i < n → L i = L' i) (hP : ∀ i, i < n → P i = P' i) (hD : ∀ i, i < n → D i = D' i) : WB w bw bp n rate unit L' P' D' t :=
  ⟨h.c0, h.c1, h.c2, h.c3, fun i hi => by rw [← hL i hi]; exact h.p0 i hi, fun i hi => by rw [← hP i hi]; exact h.p1 i hi, fun i hi => by rw [← hD i hi]; exact h.p2 i hi, h.fw, h.fp, h.ne, h.hw, h.hp⟩
section
variable {w : World} {bw bp n : Nat} {rate unit : Int} {L P : Nat → Int} {D : Nat → Bool} {t : Nat}
theorem WB.setT (h : WB w bw bp n rate unit L P D t) (t' : Nat) : WB (w.setCell ⟨bw, 3, none⟩ (.int .i64 t')) bw bp n rate unit L P D t' := by
  have o : ∀ p : Addr, p ≠ ⟨bw, 3, none⟩ → (w.setCell ⟨bw, 3, none⟩ (.int .i64 t')).cell? p = w.cell? p := fun p hp => World.cell?_setCell_other _ _ _ _ hp.symm
  have hne := h.ne
  refine ⟨(o _ (by simp)).trans h.c0, (o _ (by simp)).trans h.c1, (o _ (by simp)).trans h.c2, World.cell?_setCell_same w _ _ h.c3, fun i hi => (o _ (by simp <;> omega)).trans (h.p0 i hi), fun i hi => (o _ (by simp <;> omega)).trans (h.p1 i hi), fun i hi => (o _ (by simp <;> omega)).trans (h.p2 i hi), fun q => by simpa using h.fw q, fun q => by simpa using h.fp q, h.ne, by simpa using h.hw, by simpa using h.hp⟩
theorem WB.setL (h : WB w bw bp n rate unit L P D t) {i : Nat} (hi : i < n) (v : Int) : WB (w.setCell ⟨bp, i * 3, none⟩ (.int .i64 v)) bw bp n rate unit (updN L i v) P D t := by
  have o : ∀ p : Addr, p ≠ ⟨bp, i * 3, none⟩ → (w.setCell ⟨bp, i * 3, none⟩ (.int .i64 v)).cell? p = w.cell? p := fun p hp => World.cell?_setCell_other _ _ _ _ hp.symm
  have hne := h.ne
  refine ⟨(o _ (by simp <;> omega)).trans h.c0, (o _ (by simp <;> omega)).trans h.c1, (o _ (by simp <;> omega)).trans h.c2, (o _ (by simp <;> omega)).trans h.c3, fun k hk => ?_, fun k hk => (o _ (by simp <;> omega)).trans (h.p1 k hk), fun k hk => (o _ (by simp <;> omega)).trans (h.p2 k hk), fun q => by simpa using h.fw q, fun q => by simpa using h.fp q, h.ne, by simpa using h.hw, by simpa using h.hp⟩
  by_cases hki : k = i
  · subst hki; rw [updN_same]; exact World.cell?_setCell_same w _ _ (h.p0 k hk)
  · rw [updN_other hki]; exact (o _ (by simp <;> omega)).trans (h.p0 k hk)
theorem WB.setP (h : WB w bw bp n rate unit L P D t) {i : Nat} (hi : i < n) (v : Int) : WB (w.setCell ⟨bp, i * 3 + 1, none⟩ (.int .i64 v)) bw bp n rate unit L (updN P i v) D t := by
  have o : ∀ p : Addr, p ≠ ⟨bp, i * 3 + 1, none⟩ → (w.setCell ⟨bp, i * 3 + 1, none⟩ (.int .i64 v)).cell? p = w.cell? p := fun p hp => World.cell?_setCell_other _ _ _ _ hp.symm
  have hne := h.ne
  refine ⟨(o _ (by simp <;> omega)).trans h.c0, (o _ (by simp <;> omega)).trans h.c1, (o _ (by simp <;> omega)).trans h.c2, (o _ (by simp <;> omega)).trans h.c3, fun k hk => (o _ (by simp <;> omega)).trans (h.p0 k hk), fun k hk => ?_, fun k hk => (o _ (by simp <;> omega)).trans (h.p2 k hk), fun q => by simpa using h.fw q, fun q => by simpa using h.fp q, h.ne, by simpa using h.hw, by simpa using h.hp⟩
  by_cases hki : k = i
  · subst hki; rw [updN_same]; exact World.cell?_setCell_same w _ _ (h.p1 k hk)
  · rw [updN_other hki]; exact (o _ (by simp <;> omega)).trans (h.p1 k hk)
theorem WB.setD (h : WB w bw bp n rate unit L P D t) {i : Nat} (hi : i < n) (v : Bool) : WB (w.setCell ⟨bp, i * 3 + 2, none⟩ (.bool v)) bw bp n rate unit L P (fun k => if k = i then v else D k) t := by
  have o : ∀ p : Addr, p ≠ ⟨bp, i * 3 + 2, none⟩ → (w.setCell ⟨bp, i * 3 + 2, none⟩ (.bool v)).cell? p = w.cell? p := fun p hp => World.cell?_setCell_other _ _ _ _ hp.symm
  have hne := h.ne
  refine ⟨(o _ (by simp <;> omega)).trans h.c0, (o _ (by simp <;> omega)).trans h.c1, (o _ (by simp <;> omega)).trans h.c2, (o _ (by simp <;> omega)).trans h.c3, fun k hk => (o _ (by simp <;> omega)).trans (h.p0 k hk), fun k hk => (o _ (by simp <;> omega)).trans (h.p1 k hk), fun k hk => ?_, fun q => by simpa using h.fw q, fun q => by simpa using h.fp q, h.ne, by simpa using h.hw, by simpa using h.hp⟩
  by_cases hki : k = i
  · subst hki; rw [if_pos rfl]; exact World.cell?_setCell_same w _ _ (h.p2 k hk)
  · rw [if_neg hki]; exact (o _ (by simp <;> omega)).trans (h.p2 k hk)
end
/-- A World that holds together: a peer is Done just if it does not lag. -/
def WOk (w : World) (bw bp n : Nat) (rate unit : Int) (s : WS) : Prop := WB w bw bp n rate unit s.L s.P (fun i => s.L i == 0) s.t ∧ WInv n unit s
end Go.Proofs.Ytehdphkaknjlnaa
