/- What the laws of turns.Run lean on. -/
import Derived.Test.YtpifknmoimlpoaaTurnF
import Derived.Test.YtpifknmoimlpoaaTurnQ
set_option linter.unusedVariables false
namespace Go.Proofs.Ytpifknmoimlpoaa
open Go.RowKit
theorem run_lit {os : List (Nat × Nat)} (h : ROut (fun i => if i = 0 then 2 else 5) (fun i => if i = 0 then [3, 1] else [4]) 2 os) : os = [(1, 0), (0, 0), (0, 1)] := by
  obtain ⟨m, e, hm⟩ := h.is
  have hl := h.len
  have l3 : lenTo (fun i => if i = 0 then [3, 1] else [4]) 2 = 3 := by decide
  have e2 : outM (fun i => if i = 0 then 2 else 5) (fun i => if i = 0 then [3, 1] else [4]) 2 2 = [(1, 0), (0, 0), (0, 1)] := by decide +kernel
  rw [l3] at hl hm
  rcases Nat.lt_or_ge m 3 with h1 | h1
  · have h2 : m = 0 ∨ m = 1 ∨ m = 2 := by omega
    rcases h2 with rfl | rfl | rfl
    · rw [e] at hl; exact absurd hl (by decide +kernel)
    · rw [e] at hl; exact absurd hl (by decide +kernel)
    · rw [e]; exact e2
  · have := hm 2 (by omega)
    rw [e2] at this
    exact absurd this (by decide)
theorem Sl.of_own2 {w : World} {n : Nat} {A : Option Addr} {xs : List Value} {base : Nat} {e : TypeId} {c : Nat} (h : w.ownsRow base e 2 (.slice A n c) n xs) : Sl w w.heap.size A (n * 2) xs := by
  refine ⟨h.1, fun hn => ?_⟩
  obtain ⟨g, cap, hv, _, hlt⟩ := h.form (by omega)
  have hA : A = some ⟨g, 0, none⟩ := by injection hv
  subst hA
  refine ⟨g, 0, rfl, hlt, fun i u hu => ?_⟩
  have := h.cells (g := g) rfl i u hu
  simpa [Addr.add_lit] using this
end Go.Proofs.Ytpifknmoimlpoaa
