/- EdfDemand: no deadline is missed if and only if the demand never exceeds the interval. -/
import Derived.Test.YtigekbidbeilnaaEdfT
import Derived.Test.YtigekbidbeilnaaOpen3
set_option linter.unusedVariables false
namespace Go.Proofs.Ytigekbidbeilnaa
open Go.RowKit
theorem fits_of_intime {zs : List Int} {n : Nat} (h : edfOk zs n) (hi : ∀ i, i < n → intime zs n i) : fitsE zs n := by
  intro a ha b hb hlt
  have ja := h.2 a ha
  have jb := h.2 b hb
  unfold jobOk at ja jb
  have := dem_sched (zs := zs) (n := n) (elf zs n) (epick zs n) (fun _ _ => rfl) (fun t i _ => elf_succ zs n t i) (fun t i _ hp => (pick_pos hp).2.1) (fd zs a 0).toNat (fd zs b 2).toNat (by omega) (fun i hi' c1 c2 => elf_zero' ((intime_iff h hi').1 (hi i hi')) (by omega))
  rw [show (((fd zs a 0).toNat : Nat) : Int) = fd zs a 0 by omega, show (((fd zs b 2).toNat : Nat) : Int) = fd zs b 2 by omega] at this
  exact this
theorem ex1 : ∀ i, i < 2 → intime [0, 1, 1, 0, 1, 2] 2 i := fun i hi => (intime_iff (by decide) hi).2 ((by decide +kernel : ∀ i, i < 2 → elf [0, 1, 1, 0, 1, 2] 2 (fd [0, 1, 1, 0, 1, 2] i 2).toNat i = 0) i hi)
theorem ex2 : (∀ i, i < 1 → intime [0, 1, 1, 0, 1, 1] 2 i) ∧ ¬ intime [0, 1, 1, 0, 1, 1] 2 1 :=
  ⟨fun i hi => (intime_iff (by decide) (by omega)).2 ((by decide +kernel : ∀ i, i < 1 → elf [0, 1, 1, 0, 1, 1] 2 (fd [0, 1, 1, 0, 1, 1] i 2).toNat i = 0) i hi),
   fun h => absurd ((intime_iff (by decide) (by omega)).1 h) (by decide +kernel)⟩
set_option maxRecDepth 100000 in
set_option maxHeartbeats 6400000 in
theorem edfDemand_walk (A : Option Addr) (n c : Nat) (zs : List Int) (W : World) (w0 : In3 W A n c zs) :
    Calls Try.prog 7 #[.slice A n c] W fun e w' => e = .returned (.bool true) ∧ Below W.heap.size W w' := by
  obtain ⟨s0, l0, r0, _⟩ := w0
  go_enter Try.func7, Try.ntmps7
  go_wp2_with fail
  refine (elate_ok _ 2 _ [0, 1, 1, 0, 1, 2] _ (Sl.built_ _ (ints [0, 1, 1, 0, 1, 2]) 28 _ rfl rfl) (by decide) 2 (by omega) ex1 (fun h => absurd h (by omega)) 0 5 rfl).mono ?_
  rintro e w1 ⟨rfl, bb1⟩
  have b1 := belLit1 (Below.refl W.heap.size W) bb1
  replace s0 := slLit1 s0 bb1
  clear bb1
  go_wp2_with fail
  refine (elate_ok _ 2 _ [0, 1, 1, 0, 1, 1] _ (Sl.built_ _ (ints [0, 1, 1, 0, 1, 1]) 28 _ rfl rfl) (by decide) 1 (by omega) ex2.1 (fun _ => ex2.2) 1 0 rfl).mono ?_
  rintro e w2 ⟨rfl, bb2⟩
  have b2 := belLit1 b1 bb2
  replace s0 := slLit1 s0 bb2
  clear bb2 b1
  go_wp2_with fail
  refine (efits_ok _ 1 _ [0, 1, 1] _ (by decide) (Sl.built_ _ (ints [0, 1, 1]) 28 _ rfl rfl) true (by decide)).mono ?_
  rintro e w3 ⟨rfl, bb3⟩
  have b3 := belLit1 b2 bb3
  replace s0 := slLit1 s0 bb3
  clear bb3 b2
  by_cases hok : edfOk zs n
  case neg =>
    have HO := Lib.hid hok
    have hne := edfErr_ne n
    have hee : (edfErr n == edfErr n) = true := by simp
    clear hok
    go_wp2_with fail
    refine (efits_bad A n c zs _ HO.out s0 (by omega)).mono ?_
    rintro e w4 ⟨rfl, bb4⟩
    have b4 := belLit0 b3 bb4
    replace s0 := slLit0 s0 bb4
    clear bb4 b3
    go_wp2_with fail
    refine (elate_bad A n c zs _ s0 HO.out (by omega)).mono ?_
    rintro e w5 ⟨rfl, bb5⟩
    have b5 := belLit0 b4 bb5
    clear bb5 b4 s0
    go_wp2_with fail
    go_ret
    exact ⟨rfl, b5⟩
  have HO := Lib.hid hok
  clear hok
  rcases first_bad3 (intime zs n) n with hall | ⟨K, k1, k2, k3⟩
  · have hf := Lib.hid (fits_of_intime HO.out hall)
    have HA := Lib.hid hall
    clear hall
    go_wp2_with fail
    refine (efits_ok A n c zs _ HO.out s0 true ⟨fun _ => hf.out, fun _ => rfl⟩).mono ?_
    rintro e w4 ⟨rfl, bb4⟩
    have b4 := belLit0 b3 bb4
    replace s0 := slLit0 s0 bb4
    clear bb4 b3
    go_wp2_with fail
    refine (elate_ok A n c zs _ s0 HO.out n (Nat.le_refl _) HA.out (fun h => absurd h (Nat.lt_irrefl _)) 0 5 (if_neg (Nat.lt_irrefl _))).mono ?_
    rintro e w5 ⟨rfl, bb5⟩
    have b5 := belLit0 b4 bb5
    clear bb5 b4 s0
    go_wp2_with fail
    go_ret
    exact ⟨rfl, b5⟩
  · have hf : Hid (¬ fitsE zs n) := fun hf => k3 (edf_best HO.out hf K k1)
    have K1 := Lib.hid k1
    have K2 := Lib.hid k2
    have K3 := Lib.hid k3
    clear k1 k2 k3
    go_wp2_with fail
    refine (efits_ok A n c zs _ HO.out s0 false ⟨fun h => (by cases h), fun h => absurd h hf.out⟩).mono ?_
    rintro e w4 ⟨rfl, bb4⟩
    have b4 := belLit0 b3 bb4
    replace s0 := slLit0 s0 bb4
    clear bb4 b3
    go_wp2_with fail
    refine (elate_ok A n c zs _ s0 HO.out K (Nat.le_of_lt K1.out) K2.out (fun _ => K3.out) K 0 (if_pos K1.out)).mono ?_
    rintro e w5 ⟨rfl, bb5⟩
    have b5 := belLit0 b4 bb5
    clear bb5 b4 s0
    go_wp2_with fail
    go_ret
    exact ⟨rfl, b5⟩
end Go.Proofs.Ytigekbidbeilnaa
