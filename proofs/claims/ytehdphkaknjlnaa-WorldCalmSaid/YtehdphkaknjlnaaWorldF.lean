/- Plain laws of acts and ticks; a world as it begins. -/
import Derived.Test.YtehdphkaknjlnaaWorldE
import Derived.Test.YtehdphkaknjlnaaWorldD
set_option linter.unusedVariables false
namespace Go.Proofs.Ytehdphkaknjlnaa
open Go.RowKit
theorem inv_wact {n r : Nat} {u : Int} {s : WS} (h : WInv n u s) (l : List Int) : WInv n u (wact n r u s l).1 := by
  have hn : 0 < n := by have := h.turn; omega
  unfold wact
  split
  · exact h
  · split
    · exact inv_app h (within_lo _ 100 (by omega))
    · split
      · exact inv_wit h r
      · have a := within_lo (if 1 < l.length then gi l 1 else 0) n (by omega)
        have b := within_hi (if 1 < l.length then gi l 1 else 0) n (by omega)
        exact inv_crash h _ (by omega)
theorem tot_tick {n r : Nat} {u : Int} {s : WS} (h : WInv n u s) : wtot (wit n u s r) n = wtot s n - wgot n s r := by
  unfold wgot
  split
  · rename_i hr
    exact wit_tot h r hr
  · rename_i hr
    have t0 := (tot_nonneg h n (Nat.le_refl _)).1
    obtain ⟨q, hq⟩ := Int.eq_ofNat_of_zero_le t0
    have a := wit_tot h q (by omega)
    have sc : wscan n (wit n u s q) n = none := by
      cases hs : wscan n (wit n u s q) n with
      | none => rfl
      | some i =>
        have := wit_next h (q := q) (by omega) hs
        push_cast at this
        omega
    obtain ⟨k, rfl⟩ : ∃ k, r = q + k := ⟨r - q, by omega⟩
    rw [wit_stay sc, a]
    omega
theorem tot_crash {n i : Nat} {s : WS} (hi : i < n) : wtot ⟨s.L, updN s.P i 0, s.t⟩ n = wtot s n + s.P i := by
  obtain ⟨L, P, t⟩ := s
  rw [tot_upd (L := L) (P := P) (t := t) (i := i) (fun k _ => rfl) (fun k hk => updN_other hk) n, if_pos hi, updN_same]
  show _ + (L i - 0 - (L i - P i)) = _ + P i
  omega
theorem act_crash {n r : Nat} {u : Int} {s : WS} {l : List Int} (h : WInv n u s) (h0 : l.length ≠ 0) (h2 : within (gi l 0) 3 = 2) : wtot (wact n r u s l).1 n = wtot s n + (wact n r u s l).2 := by
  have hn : 0 < n := by have := h.turn; omega
  have a := within_lo (if 1 < l.length then gi l 1 else 0) n (by omega)
  have b := within_hi (if 1 < l.length then gi l 1 else 0) n (by omega)
  unfold wact
  rw [if_neg h0, h2, if_neg (by omega), if_neg (by omega)]
  exact tot_crash (by omega)
theorem tot_all {n : Nat} {u : Int} {s : WS} (h : WInv n u s) (h0 : wtot s n = 0) (i : Nat) (hi : i < n) : s.L i = 0 ∧ s.P i = 0 := by
  have key : ∀ k, k ≤ n → wtot s k = 0 → ∀ j, j < k → s.L j = 0 ∧ s.P j = 0 := fun k => by
    induction k with
    | zero => intro _ _ j hj; omega
    | succ k ih =>
      intro hk hz j hj
      rw [wtot_succ] at hz
      have a := (tot_nonneg h k (by omega)).1
      have l := h.lag k (by omega)
      have p := h.part k (by omega)
      rcases Nat.lt_or_ge j k with h' | h'
      · exact ih (by omega) (by omega) j h'
      · obtain rfl : j = k := by omega
        omega
  exact key n (Nat.le_refl _) h0 i hi
theorem wtot_c (c : Int) (t k : Nat) : wtot ⟨fun _ => c, fun _ => 0, t⟩ k = c * k := by
  induction k with
  | zero => simp [wtot]
  | succ k ih =>
    rw [wtot_succ, ih]
    show c * (k : Int) + (c - 0) = c * ((k + 1 : Nat) : Int)
    push_cast
    rw [Int.mul_add]
    omega
theorem app_three (m : Nat) : wapp m 3 ⟨fun _ => 0, fun _ => 0, 0⟩ = (⟨fun _ => 3, fun _ => 0, 0⟩, 0) := by
  unfold wapp
  rw [if_pos (fun i _ => by show (0 : Int) + 3 ≤ 1000000; omega)]
  rfl
/-- The cells of what Peers answers. -/
theorem peers_at {w w5 : World} {g c n : Nat} {s : WS} (hn : 0 < n) (hown : w5.ownsRow w.heap.size 36 3 (.slice (some ⟨g, 0, none⟩) n c) n (peersV n s)) : ∀ w', Below w5.heap.size w5 w' → ∀ i, i < n → w'.cell? ⟨g, i * 3, none⟩ = some (.int .i64 (s.L i)) ∧ w'.cell? ⟨g, i * 3 + 1, none⟩ = some (.int .i64 (s.P i)) ∧ w'.cell? ⟨g, i * 3 + 2, none⟩ = some (.bool (s.L i == 0)) := fun w' hb i hi => by
  have hgw : g < w5.heap.size := by
    obtain ⟨g', cap, hv, hg1, hg2⟩ := hown.form hn
    injection hv with e1 e2 e3
    injection e1 with e1
    injection e1 with e1
    omega
  refine ⟨(hb.cell (p := ⟨g, i * 3, none⟩) hgw).trans ?_, (hb.cell (p := ⟨g, i * 3 + 1, none⟩) hgw).trans ?_, (hb.cell (p := ⟨g, i * 3 + 2, none⟩) hgw).trans ?_⟩
  · rw [hown.cellAt _ (by omega)]; exact peersV_0 s hi
  · rw [hown.cellAt _ (by omega)]; exact peersV_1 s hi
  · rw [hown.cellAt _ (by omega)]; exact peersV_2 s hi
end Go.Proofs.Ytehdphkaknjlnaa
