/- One flow out of many; the run of a flow alone. -/
import Derived.Test.YtpifknmoimlpoaaTurnK
set_option linter.unusedVariables false
namespace Go.Proofs.Ytpifknmoimlpoaa
open Go.RowKit
theorem FlS.sub {w : World} {B n b off : Nat} {q : Nat → Int} {hd : Nat → Option Addr × Nat × Nat} {ls : Nat → List Int} (h : FlS w B (some ⟨b, off, none⟩) n q hd ls) {i : Nat} (hi : i < n) :
    FlS w B (some ⟨b, off + i * 2, none⟩) 1 (fun _ => q i) (fun _ => hd i) (fun _ => ls i) := by
  obtain ⟨b', off', e, hb, hc⟩ := h.sl.2 (by omega)
  injection e with e
  injection e with e1 e2
  subst e1 e2
  refine ⟨⟨flv_len _ _ _, fun _ => ⟨b, off + i * 2, rfl, hb, fun j u hu => ?_⟩⟩, fun _ _ => h.inner i hi⟩
  have hj : j < 2 := by
    have := (List.getElem?_eq_some_iff.1 hu).1
    rwa [flv_len] at this
  have e : (flv q hd n)[i * 2 + j]? = some u := by
    rcases (show j = 0 ∨ j = 1 by omega) with rfl | rfl
    · rw [Nat.add_zero, flv_q hi]
      have e0 := flv_q (q := fun _ => q i) (hd := fun _ => hd i) (n := 1) (i := 0) (by omega)
      exact e0.symm.trans hu
    · rw [flv_s hi]
      have e0 := flv_s (q := fun _ => q i) (hd := fun _ => hd i) (n := 1) (i := 0) (by omega)
      exact e0.symm.trans hu
  rw [Nat.add_assoc]
  exact hc _ _ e
theorem tchk_one {q : Int} {l : List Int} (h : QOk q l) : tchk 1 (fun _ => q) (fun _ => l) = 0 := by
  have hb : tbad q l = 0 := by
    unfold tbad
    rw [if_neg (by have := h.q1; have := h.q2; omega), if_neg (by have := h.len; omega), if_pos (szOk_iff.2 fun i hi => ⟨h.lo i hi, h.hi i hi⟩)]
  unfold tchk
  rw [if_neg (by omega)]
  show (if tfirst (fun _ => q) (fun _ => l) 0 = 0 then tbad q l else _) = 0
  rw [if_pos (show tfirst (fun _ => q) (fun _ => l) 0 = 0 from rfl), hb]
theorem ROut.one {q : Int} {l : List Int} {os : List (Nat × Nat)} (h : ROut (fun _ => q) (fun _ => l) 1 os) : os.length = l.length ∧ ∀ j, j < os.length → os.getD j (0, 0) = (0, j) := by
  refine ⟨by rw [h.len]; show 0 + l.length = _; omega, fun j hj => ?_⟩
  have z : ∀ j, j < os.length → (os.getD j (0, 0)).1 = 0 := fun j hj => by have := (h.at_ hj).1; omega
  have cn : ∀ j, j ≤ os.length → cntT os 0 j = j := by
    intro j
    induction j with
    | zero => intro _; rfl
    | succ j ih =>
      intro hj
      show cntT os 0 j + (if (os.getD j (0, 0)).1 = 0 then 1 else 0) = _
      rw [ih (by omega), if_pos (z j (by omega))]
  have e2 := (h.at_ hj).2.1
  rw [z j hj, cn j (by omega)] at e2
  exact Prod.ext (z j hj) e2
end Go.Proofs.Ytpifknmoimlpoaa
