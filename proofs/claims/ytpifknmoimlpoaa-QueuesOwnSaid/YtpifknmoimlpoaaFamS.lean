/- Rows that stand apart from a family of flows. -/
import Derived.Test.YtpifknmoimlpoaaSep
import Derived.Test.YtpifknmoimlpoaaFam
set_option linter.unusedVariables false
namespace Go.Proofs.Ytpifknmoimlpoaa
open Go.RowKit
def Off (L : List Rw) (gi : Nat → Nat) (k : Nat) : Prop := ∀ r, r ∈ L → ∀ j, j < k → r.v.ownBlock ≠ some (gi j)
section
variable {w w' : World} {B D lo k : Nat} {fl : Value} {q : Nat → Int} {m gi : Nat → Nat} {ls : Nat → List Int} {L : List Rw} {r : Rw}
theorem Sep.row_lt (S : Sep w B L) (hr : r ∈ L) : ∀ b, r.v.ownBlock = some b → b < w.heap.size := fun b hb => by
  obtain ⟨i, h⟩ := List.getElem?_of_mem hr
  exact ((S.own i r h).lt b hb).2
theorem Off.start (S : Sep w B L) (h : Fam w' D fl 0 k q m gi ls) (hD : w.heap.size = D) : Off L gi k := fun r hr j hj e => by
  have := S.row_lt hr _ e
  have := ((h.inn j (Nat.zero_le _) hj).lt (gi j) rfl).1
  omega
theorem Off.add (hO : Off L gi k) (h : Fam w D fl 0 k q m gi ls) (hr : r.in_ w' w.heap.size) : Off (r :: L) gi k := fun x hx j hj e => by
  rcases List.mem_cons.1 hx with rfl | hx
  · have := (hr.lt _ e).1
    have := ((h.inn j (Nat.zero_le _) hj).lt (gi j) rfl).2
    omega
  · exact hO x hx j hj e
theorem Off.erase (hO : Off L gi k) (i : Nat) : Off (L.eraseIdx i) gi k := fun r hr => hO r (List.mem_of_mem_eraseIdx hr)
theorem Sep.aside (S : Sep w B L) (hO : Off L gi k) {j : Nat} (hj : j < k) (hg : w.grownBy w' (some (gi j))) : Sep w' B L :=
  ⟨fun i r hr => (S.own i r hr).kept hg (.inr (hO r (List.mem_of_getElem? hr) j hj)), S.ap⟩
end
theorem elemFlow : Elem Try.prog 22 29 (.agg #[.int .i64 0, .slice none 0 0]) 2 32 := by
  obtain ⟨i, h1, h2, h3, h4⟩ := info_parts (P := Try.prog) (e := 29) (z := .agg #[.int .i64 0, .slice none 0 0]) (size := 2) (bytes := 32) (by kernel_rfl)
  exact ⟨Try.underlying22, ⟨i, h1, h2, h3, h4⟩, rfl, by decide, by decide⟩
end Go.Proofs.Ytpifknmoimlpoaa
