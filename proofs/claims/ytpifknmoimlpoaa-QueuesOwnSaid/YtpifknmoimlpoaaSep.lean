/- Rows of the call's own that share no memory. -/
import Derived.Test.YtpifknmoimlpoaaRoomG
import Derived.Test.YtpifknmoimlpoaaStageP
import Derived.Deep.AppendLies
set_option linter.unusedVariables false
namespace Go.Proofs.Ytpifknmoimlpoaa
open Go.RowKit
structure Rw where
  e : TypeId
  K : Nat
  v : Value
  n : Nat
  xs : List Value
def Rw.in_ (r : Rw) (w : World) (B : Nat) : Prop := w.ownsRow B r.e r.K r.v r.n r.xs
/-- The place of a row that is not there yet. -/
def noRow : Rw := ⟨0, 1, .slice none 0 0, 0, []⟩
structure Sep (w : World) (B : Nat) (L : List Rw) : Prop where
  own : ∀ (i : Nat) (r : Rw), L[i]? = some r → r.in_ w B
  ap : ∀ (i j : Nat) (r s : Rw), i ≠ j → L[i]? = some r → L[j]? = some s → Apart r.v s.v
section
variable {w w' : World} {B : Nat} {L : List Rw} {r : Rw}
theorem Sep.nil (w : World) (B : Nat) : Sep w B [] := ⟨fun i r h => by simp at h, fun i j r s _ h => by simp at h⟩
theorem Sep.on (h : Sep w B L) (hb : Below w.heap.size w w') : Sep w' B L := ⟨fun i r hr => own_onR (h.own i r hr) hb, h.ap⟩
/-- What a call has just made. -/
theorem Sep.add (h : Sep w B L) (hb : Below w.heap.size w w') (hB : B ≤ w.heap.size) (hr : r.in_ w' w.heap.size) : Sep w' B (r :: L) := by
  have far : ∀ (i : Nat) (s : Rw), L[i]? = some s → Apart r.v s.v := fun i s hs b h1 h2 => by
    have := (hr.lt b h1).1
    have := ((h.own i s hs).lt b h2).2
    omega
  refine ⟨fun i x hx => ?_, fun i j x y hij hx hy => ?_⟩
  · cases i with
    | zero => simp at hx; subst hx; exact own_lower hr hB
    | succ i => simp at hx; exact own_onR (h.own i x hx) hb
  · cases i with
    | zero =>
      simp at hx; subst hx
      cases j with
      | zero => exact absurd rfl hij
      | succ j => simp at hy; exact far j y hy
    | succ i =>
      simp at hx
      cases j with
      | zero => simp at hy; subst hy; exact (far i x hx).symm
      | succ j => simp at hy; exact h.ap i j x y (by omega) hx hy
theorem noRow_in (w : World) (B : Nat) : noRow.in_ w B := World.ownsRow_nil _ _ _ _
theorem Sep.hole (h : Sep w B L) : Sep w B (noRow :: L) := by
  have far : ∀ s : Rw, Apart noRow.v s.v := fun s => Apart.nil _
  refine ⟨fun i x hx => ?_, fun i j x y hij hx hy => ?_⟩
  · cases i with
    | zero => simp at hx; subst hx; exact noRow_in _ _
    | succ i => simp at hx; exact h.own i x hx
  · cases i with
    | zero => simp at hx; subst hx; exact far y
    | succ i =>
      simp at hx
      cases j with
      | zero => simp at hy; subst hy; exact (far x).symm
      | succ j => simp at hy; exact h.ap i j x y (by omega) hx hy
/-- A place is filled by what a call has just made. -/
theorem Sep.fill (h : Sep w B L) (k : Nat) (hb : Below w.heap.size w w') (hB : B ≤ w.heap.size) (hr : r.in_ w' w.heap.size) : Sep w' B (L.set k r) := by
  have far : ∀ (i : Nat) (s : Rw), L[i]? = some s → Apart r.v s.v := fun i s hs b h1 h2 => by
    have := (hr.lt b h1).1
    have := ((h.own i s hs).lt b h2).2
    omega
  refine ⟨fun i x hx => ?_, fun i j x y hij hx hy => ?_⟩
  · rw [List.getElem?_set] at hx
    split at hx
    · split at hx
      · injection hx with hx; subst hx; exact own_lower hr hB
      · cases hx
    · exact own_onR (h.own i x hx) hb
  · rw [List.getElem?_set] at hx hy
    split at hx
    · split at hx
      · injection hx with hx; subst hx
        rw [if_neg (by omega)] at hy
        exact far j y hy
      · cases hx
    · split at hy
      · split at hy
        · injection hy with hy; subst hy
          exact (far i x hx).symm
        · cases hy
      · exact h.ap i j x y hij hx hy
/-- One is spoiled. -/
theorem Sep.spoil (h : Sep w B L) (k : Nat) (hk : L[k]? = some r) (hg : w.grownBy w' r.v.ownBlock) : Sep w' B (L.eraseIdx k) := by
  have at_ : ∀ i x, (L.eraseIdx k)[i]? = some x → ∃ j, j ≠ k ∧ L[j]? = some x ∧ j = (if i < k then i else i + 1) := fun i x hx => by
    rw [List.getElem?_eraseIdx] at hx
    split at hx
    · exact ⟨i, by omega, hx, by simp [*]⟩
    · exact ⟨i + 1, by omega, hx, by simp [*]⟩
  refine ⟨fun i x hx => ?_, fun i j x y hij hx hy => ?_⟩
  · obtain ⟨j, hj, hx, _⟩ := at_ i x hx
    have ne := h.ap j k x r hj hx hk
    refine (h.own j x hx).kept hg ?_
    rcases hv : x.v.ownBlock with _ | b
    · exact .inl rfl
    · exact .inr fun e => ne b hv e.symm
  · obtain ⟨i', hi, hx, ei⟩ := at_ i x hx
    obtain ⟨j', hj, hy, ej⟩ := at_ j y hy
    refine h.ap i' j' x y (fun e => hij ?_) hx hy
    subst e
    split at ei <;> split at ej <;> omega
theorem Sep.below (h : Sep w B L) (k : Nat) (hk : L[k]? = some r) {W : World} (hB : Below B W w) (hz : B ≤ w.heap.size) (hg : w.grownBy w' r.v.ownBlock) : Below B W w' :=
  hB.grown hg hz fun b hb => ((h.own k r hk).lt b hb).1
theorem VBox.grown {g : Nat} {x y z : Value} {o : Option Nat} (h : VBox w g x y z) (hg : w.grownBy w' o) (hl : g < w.heap.size) (ho : some g ≠ o) : VBox w' g x y z :=
  ⟨(hg.cell_far ⟨g, 0, none⟩ hl ho).trans h.c0, (hg.cell_far ⟨g, 1, none⟩ hl ho).trans h.c1, (hg.cell_far ⟨g, 2, none⟩ hl ho).trans h.c2, fun q => (hg.frozen_far ⟨g, q, none⟩ hl ho).trans (h.f q)⟩
end
/-- A box of three cells that is there. -/
def TBox (w : World) (g : Nat) (x y z : Value) : Prop := VBox w g x y z ∧ g < w.heap.size
theorem TBox.on {w w' : World} {g : Nat} {x y z : Value} (h : TBox w g x y z) (hb : Below w.heap.size w w') : TBox w' g x y z := ⟨h.1.on hb h.2, Nat.lt_of_lt_of_le h.2 hb.size⟩
theorem TBox.grown {w w' : World} {g : Nat} {x y z : Value} {o : Option Nat} (h : TBox w g x y z) (hg : w.grownBy w' o) (ho : some g ≠ o) : TBox w' g x y z := ⟨h.1.grown hg h.2 ho, Nat.lt_of_lt_of_le h.2 hg.size⟩
theorem TBox.made (w : World) (x y z : Value) (t : TypeId) : TBox (w.alloc (.cells #[x, y, z] t)) w.heap.size x y z := ⟨VBox.made w x y z t, by simp⟩
theorem TBox.set2 {w : World} {g : Nat} {x y z v : Value} (h : TBox w g x y z) : TBox (w.setCell ⟨g, 2, none⟩ v) g x y v := ⟨h.1.set2, by simpa [World.setCell] using h.2⟩
theorem TBox.off {w : World} {g b o : Nat} {x y z v : Value} (h : TBox w g x y z) (hb : b ≠ g) : TBox (w.setCell ⟨b, o, none⟩ v) g x y z := ⟨h.1.off hb, by simpa [World.setCell] using h.2⟩
/-- A store into a block that is none of the rows'. -/
theorem Sep.setOff {w : World} {B : Nat} {L : List Rw} {g o : Nat} {u : Value} (h : Sep w B L) (hne : ∀ (i : Nat) (r : Rw), L[i]? = some r → r.v.ownBlock ≠ some g) : Sep (w.setCell ⟨g, o, none⟩ u) B L :=
  ⟨fun i r hr => (h.own i r hr).kept (grown_set w g o u) (.inr (hne i r hr)), h.ap⟩
/-- What a row with room behind it reads as. -/
theorem room_own {w : World} {B : Nat} {e : TypeId} {K g n : Nat} {xs m : List Value} (h : w.ownsRow B e K (.slice (some ⟨g, 0, none⟩) (n + 3) (n + 3)) (n + 3) (xs ++ rep3 m 3)) (hx : xs.length = n * K) : w.ownsRow B e K (.slice (some ⟨g, 0, none⟩) n (n + 3)) n xs :=
  own_short h (by omega) (by rw [List.take_append_of_le_length (by omega), List.take_of_length_le (by omega)])
/-- What stands behind a region that draws, said once for all its orders. -/
theorem region_cut {P : Program} {id : Nat} {ops : Array Oper} {b : Bool} {Q : Exit → Act → World → Prop} {a : Act} {w : World} (J : World → Value → Value → Value → Value → Value → Prop) {a' : Value → Value → Value → Value → Value → Act}
    (h : (Code.region id ops b).wp P (fun e c w' => e = .normal ∧ ∃ v1 v2 v3 v4 v5, c = a' v1 v2 v3 v4 v5 ∧ J w' v1 v2 v3 v4 v5) a w) (hk : ∀ w' v1 v2 v3 v4 v5, J w' v1 v2 v3 v4 v5 → Q .normal (a' v1 v2 v3 v4 v5) w') :
    (Code.region id ops b).wp P Q a w :=
  Code.wp_mono (fun e c w' h => by obtain ⟨rfl, v1, v2, v3, v4, v5, rfl, hj⟩ := h; exact hk _ _ _ _ _ _ hj) h
end Go.Proofs.Ytpifknmoimlpoaa
