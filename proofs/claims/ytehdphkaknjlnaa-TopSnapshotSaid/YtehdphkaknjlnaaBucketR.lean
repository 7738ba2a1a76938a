/- bucket.Run. -/
import Derived.Test.YtehdphkaknjlnaaPackA
import Derived.Test.YtehdphkaknjlnaaBucketA
set_option linter.unusedVariables false
namespace Go.Proofs.Ytehdphkaknjlnaa
open Go.RowKit
/-- When the packet ahead of k came. -/
def bprev (zs : List Int) : Nat → Int
  | 0 => 0
  | k + 1 => fd zs k 0
/-- What is in the bucket behind packet k - 1. -/
def bfill (R B F : Int) (zs : List Int) : Nat → Int
  | 0 => F
  | k + 1 => if tickF R B (bfill R B F zs k) (fd zs k 0 - bprev zs k) < fd zs k 1 then tickF R B (bfill R B F zs k) (fd zs k 0 - bprev zs k) else tickF R B (bfill R B F zs k) (fd zs k 0 - bprev zs k) - fd zs k 1
/-- What is in the bucket as packet k comes. -/
def btf (R B F : Int) (zs : List Int) (k : Nat) : Int := tickF R B (bfill R B F zs k) (fd zs k 0 - bprev zs k)
theorem bfill_succ (R B F : Int) (zs : List Int) (k : Nat) : bfill R B F zs (k + 1) = if btf R B F zs k < fd zs k 1 then btf R B F zs k else btf R B F zs k - fd zs k 1 := rfl
def bpass (R B F : Int) (zs : List Int) (k : Nat) : Bool := decide (fd zs k 1 ≤ btf R B F zs k)
def btab (n : Nat) (f : Nat → Bool) : List Bool := (List.range n).map f
theorem btab_len (n : Nat) (f : Nat → Bool) : (btab n f).length = n := by simp [btab]
theorem btab_get {n : Nat} (f : Nat → Bool) {i : Nat} (h : i < n) : gb (btab n f) i = f i := by simp [btab, gb, h]
theorem btab_push (n : Nat) (f : Nat → Bool) : bools (btab n f) ++ [.bool (f n)] = bools (btab (n + 1) f) := by simp [btab, List.range_succ, bools]
theorem bdt {zs : List Int} {n : Nat} (h : Packs zs n) (k : Nat) (hk : k < n) : 0 ≤ fd zs k 0 - bprev zs k ∧ fd zs k 0 - bprev zs k ≤ 200 := by
  have a := h.at0 k hk
  rcases k with _ | k
  · have : bprev zs 0 = 0 := rfl
    omega
  · have e : bprev zs (k + 1) = fd zs k 0 := rfl
    have b := h.at0 k (by omega)
    have c := h.up k hk
    omega
theorem bfill_bd {R B F : Int} {zs : List Int} {n : Nat} (h : Packs zs n) (hb : bktOk R B F) (k : Nat) (hk : k ≤ n) : bktOk R B (bfill R B F zs k) := by
  induction k with
  | zero => exact hb
  | succ k ih =>
    have a := tickF_bd (ih (by omega)) (bdt h k (by omega)).1
    have s := h.sz k (by omega)
    rw [bfill_succ]
    unfold btf
    unfold bktOk at a ⊢
    split <;> omega
theorem btf_bd {R B F : Int} {zs : List Int} {n : Nat} (h : Packs zs n) (hb : bktOk R B F) (k : Nat) (hk : k < n) : bktOk R B (btf R B F zs k) := tickF_bd (bfill_bd h hb k (by omega)) (bdt h k hk).1
/-- The answer: a slice of bools, and an error. -/
def RetBl (W : World) (n : Nat) (zs : List Bool) (er : Int) (e : Ending) (w' : World) : Prop :=
  ∃ A c, e = .returned (.tuple #[.slice A n c, .int .i64 er]) ∧ Sl w' w'.heap.size A n (bools zs) ∧ n ≤ c ∧ Below W.heap.size W w'
/-- A box of three numbers at block g. -/
structure BBox (w : World) (g : Nat) (R B F : Int) : Prop where
  c0 : w.cell? ⟨g, 0, none⟩ = some (.int .i64 R)
  c1 : w.cell? ⟨g, 1, none⟩ = some (.int .i64 B)
  c2 : w.cell? ⟨g, 2, none⟩ = some (.int .i64 F)
  f : ∀ q, w.frozen? ⟨g, q, none⟩ = false
theorem BBox.on {w w' : World} {g D : Nat} {R B F : Int} (h : BBox w g R B F) (hb : Below D w w') (hg : g < D) : BBox w' g R B F :=
  ⟨(hb.cell (p := ⟨g, 0, none⟩) hg).trans h.c0, (hb.cell (p := ⟨g, 1, none⟩) hg).trans h.c1, (hb.cell (p := ⟨g, 2, none⟩) hg).trans h.c2, fun q => (hb.frozen (p := ⟨g, q, none⟩) hg).trans (h.f q)⟩
def bput (w : World) (g : Nat) (R B F : Int) : World := ((w.setCell ⟨g, 0, none⟩ (.int .i64 R)).setCell ⟨g, 1, none⟩ (.int .i64 B)).setCell ⟨g, 2, none⟩ (.int .i64 F)
theorem BBox.put {w : World} {g : Nat} {R B F : Int} (h : BBox w g R B F) (R' B' F' : Int) : BBox (bput w g R' B' F') g R' B' F' := by
  have e0 : (w.setCell ⟨g, 0, none⟩ (.int .i64 R')).cell? ⟨g, 0, none⟩ = some (.int .i64 R') := World.cell?_setCell_same w _ _ h.c0
  have e1 : (w.setCell ⟨g, 0, none⟩ (.int .i64 R')).cell? ⟨g, 1, none⟩ = some (.int .i64 B) := by rw [World.cell?_setCell_other _ _ _ _ (by simp)]; exact h.c1
  have e2 : (w.setCell ⟨g, 0, none⟩ (.int .i64 R')).cell? ⟨g, 2, none⟩ = some (.int .i64 F) := by rw [World.cell?_setCell_other _ _ _ _ (by simp)]; exact h.c2
  refine ⟨?_, ?_, ?_, fun q => ?_⟩
  · unfold bput
    rw [World.cell?_setCell_other _ _ _ _ (by simp), World.cell?_setCell_other _ _ _ _ (by simp)]
    exact e0
  · unfold bput
    rw [World.cell?_setCell_other _ _ _ _ (by simp)]
    exact World.cell?_setCell_same _ _ _ e1
  · unfold bput
    exact World.cell?_setCell_same _ _ _ (u := .int .i64 F) (by rw [World.cell?_setCell_other _ _ _ _ (by simp)]; exact e2)
  · unfold bput
    simp [go_sem, h.f q]
theorem bput_size (w : World) (g : Nat) (R B F : Int) : (bput w g R B F).heap.size = w.heap.size := by simp [bput]
theorem bput_cell (w : World) {g b : Nat} (R B F : Int) (o : Nat) (h : b ≠ g) : (bput w g R B F).cell? ⟨b, o, none⟩ = w.cell? ⟨b, o, none⟩ := by
  unfold bput
  rw [World.cell?_setCell_other _ _ _ _ (by simp [h]), World.cell?_setCell_other _ _ _ _ (by simp [h]), World.cell?_setCell_other _ _ _ _ (by simp [h])]
theorem bput_below {W w : World} {g D : Nat} (R B F : Int) (h : Below D W w) (hg : D ≤ g) : Below D W (bput w g R B F) := ((h.setCell hg _).setCell hg _).setCell hg _
theorem bput_own {w : World} {g base : Nat} {e : TypeId} {size : Nat} {v : Value} {n : Nat} {xs : List Value} (R B F : Int) (h : w.ownsRow base e size v n xs) (hg : g < base) : (bput w g R B F).ownsRow base e size v n xs :=
  ownsRow_setCell_below (ownsRow_setCell_below (ownsRow_setCell_below h hg _) hg _) hg _
theorem own_on {w w' : World} {base : Nat} {e : TypeId} {size : Nat} {v : Value} {n : Nat} {xs : List Value} (h : w.ownsRow base e size v n xs) (hb : Below w.heap.size w w') : w'.ownsRow base e size v n xs :=
  h.kept ⟨hb.os, hb.tape, hb.output, hb.size, fun k hk _ => hb.block k hk⟩ (row := none) (by rcases v.ownBlock with _ | k; exact .inl rfl; exact .inr (by simp))
end Go.Proofs.Ytehdphkaknjlnaa
