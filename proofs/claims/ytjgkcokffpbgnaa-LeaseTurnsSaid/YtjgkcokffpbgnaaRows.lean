/-
  No cell of these rows narrows 'for every input' (looked for: loops, veiled, ifaces, maps, wideKeys, modest, calm, conditions, laid).
  DERIVED. THE GIVEN ROWS OF THIS SEAT. 6 by the template 'for every input the law returns true; each argument reads behind the call as it read before'; 0 by the template 'total and deterministic' (their statements: YtjgkcokffpbgnaaTotals.lean).
  GIVEN WITH THE SEED: the statements are not yours to turn. If you find one false, say at which input.
  Laid BY PROGRAM, IN A SANDBOX (cutbox-rows.mjs): the forced cells as the released guide's own fill.sh prints them over the translation b97a88f0e014d2fc… (all of the seat's roots in one cut). By AI agents, Wed Nov 11 2026. No macro, syntax, notation, axiom, sorry.
-/
import Derived.Test.YtjgkcokffpbgnaaChecked
import GoSem.Claim
import GoSem.ClaimJoined
import GoSem.ClaimMapViews
import Derived.JoinedTies
import Derived.KernelRfl
namespace Go.Proofs.Ytjgkcokffpbgnaa
/- THE CELL 'sum', in the pinned program and in every row, IS THE sha256 OF THE DUMP (.gsa) THAT YtjgkcokffpbgnaaProg.lean LOADS. Nothing in Lean hashes anything: it is a label: what it is worth is what the hold of that sum in a sandbox is worth. -/
noncomputable def Try.pinned : Pinned := { name := "ytjgkcokffpbgnaa", sum := "b97a88f0e014d2fc59b9dfc13256d4236fb6cb88f80185589b85f19d95987016", checked := Try.checked }
namespace Rows
def none {H : Type} : Left H := { results := [], args := [] }

/-- 'headkeep.LeaseLater': WHATEVER THE INPUT: true; the input reads as it did. -/
def leaseLaterSpec : ChangeSpec := { name := "leaseLater", fn := fun _ => fun
  | [d1, d2, d3, d4, d5] => { results := [.lit (.bool true)], args := [d1, d2, d3, d4, d5] }
  | _ => none }
def leaseLaterRow : OpenClaim := { program := "ytjgkcokffpbgnaa", sum := "b97a88f0e014d2fc59b9dfc13256d4236fb6cb88f80185589b85f19d95987016", func := "headway/headkeep.LeaseLater", spec := "leaseLater", apart := false }
def LeaseLaterSaid : Prop := leaseLaterRow.holds Try.pinned (OpenSpec.ofChange leaseLaterSpec)

/-- ITS FALSE NEIGHBOUR: 'it returns false'. Refute it at one input. -/
def leaseLaterWrong : ChangeSpec := { name := "leaseLater", fn := fun _ => fun
  | [d1, d2, d3, d4, d5] => { results := [.lit (.bool false)], args := [d1, d2, d3, d4, d5] }
  | _ => none }
def LeaseLaterWrongFalsely : Prop := leaseLaterRow.holds Try.pinned (OpenSpec.ofChange leaseLaterWrong)

/-- 'headkeep.LeasePins': WHATEVER THE INPUT: true; the input reads as it did. -/
def leasePinsSpec : ChangeSpec := { name := "leasePins", fn := fun _ => fun
  | [d1, d2] => { results := [.lit (.bool true)], args := [d1, d2] }
  | _ => none }
def leasePinsRow : OpenClaim := { program := "ytjgkcokffpbgnaa", sum := "b97a88f0e014d2fc59b9dfc13256d4236fb6cb88f80185589b85f19d95987016", func := "headway/headkeep.LeasePins", spec := "leasePins", apart := false }
def LeasePinsSaid : Prop := leasePinsRow.holds Try.pinned (OpenSpec.ofChange leasePinsSpec)

/-- ITS FALSE NEIGHBOUR: 'it returns false'. Refute it at one input. -/
def leasePinsWrong : ChangeSpec := { name := "leasePins", fn := fun _ => fun
  | [d1, d2] => { results := [.lit (.bool false)], args := [d1, d2] }
  | _ => none }
def LeasePinsWrongFalsely : Prop := leasePinsRow.holds Try.pinned (OpenSpec.ofChange leasePinsWrong)

/-- 'headkeep.LeaseHolds': WHATEVER THE INPUT: true; the input reads as it did. -/
def leaseHoldsSpec : ChangeSpec := { name := "leaseHolds", fn := fun _ => fun
  | [d1, d2, d3, d4] => { results := [.lit (.bool true)], args := [d1, d2, d3, d4] }
  | _ => none }
def leaseHoldsRow : OpenClaim := { program := "ytjgkcokffpbgnaa", sum := "b97a88f0e014d2fc59b9dfc13256d4236fb6cb88f80185589b85f19d95987016", func := "headway/headkeep.LeaseHolds", spec := "leaseHolds", inPlace := ["slices.overlaps[headway/api.Lease]"], apart := false }
def LeaseHoldsSaid : Prop := leaseHoldsRow.holds Try.pinned (OpenSpec.ofChange leaseHoldsSpec)

/-- ITS FALSE NEIGHBOUR: 'it returns false'. Refute it at one input. -/
def leaseHoldsWrong : ChangeSpec := { name := "leaseHolds", fn := fun _ => fun
  | [d1, d2, d3, d4] => { results := [.lit (.bool false)], args := [d1, d2, d3, d4] }
  | _ => none }
def LeaseHoldsWrongFalsely : Prop := leaseHoldsRow.holds Try.pinned (OpenSpec.ofChange leaseHoldsWrong)

/-- 'headkeep.LeaseTurns': WHATEVER THE INPUT: true; the input reads as it did. -/
def leaseTurnsSpec : ChangeSpec := { name := "leaseTurns", fn := fun _ => fun
  | [d1, d2, d3, d4, d5] => { results := [.lit (.bool true)], args := [d1, d2, d3, d4, d5] }
  | _ => none }
def leaseTurnsRow : OpenClaim := { program := "ytjgkcokffpbgnaa", sum := "b97a88f0e014d2fc59b9dfc13256d4236fb6cb88f80185589b85f19d95987016", func := "headway/headkeep.LeaseTurns", spec := "leaseTurns", inPlace := ["slices.overlaps[headway/api.Lease]"], unfollowed := true, recurses := true, apart := false }
def LeaseTurnsSaid : Prop := leaseTurnsRow.holds Try.pinned (OpenSpec.ofChange leaseTurnsSpec)

/-- ITS FALSE NEIGHBOUR: 'it returns false'. Refute it at one input. -/
def leaseTurnsWrong : ChangeSpec := { name := "leaseTurns", fn := fun _ => fun
  | [d1, d2, d3, d4, d5] => { results := [.lit (.bool false)], args := [d1, d2, d3, d4, d5] }
  | _ => none }
def LeaseTurnsWrongFalsely : Prop := leaseTurnsRow.holds Try.pinned (OpenSpec.ofChange leaseTurnsWrong)

/-- 'headkeep.PieceOnce': WHATEVER THE INPUT: true; the input reads as it did. -/
def pieceOnceSpec : ChangeSpec := { name := "pieceOnce", fn := fun _ => fun
  | [d1, d2, d3] => { results := [.lit (.bool true)], args := [d1, d2, d3] }
  | _ => none }
def pieceOnceRow : OpenClaim := { program := "ytjgkcokffpbgnaa", sum := "b97a88f0e014d2fc59b9dfc13256d4236fb6cb88f80185589b85f19d95987016", func := "headway/headkeep.PieceOnce", spec := "pieceOnce", apart := false }
def PieceOnceSaid : Prop := pieceOnceRow.holds Try.pinned (OpenSpec.ofChange pieceOnceSpec)

/-- ITS FALSE NEIGHBOUR: 'it returns false'. Refute it at one input. -/
def pieceOnceWrong : ChangeSpec := { name := "pieceOnce", fn := fun _ => fun
  | [d1, d2, d3] => { results := [.lit (.bool false)], args := [d1, d2, d3] }
  | _ => none }
def PieceOnceWrongFalsely : Prop := pieceOnceRow.holds Try.pinned (OpenSpec.ofChange pieceOnceWrong)

/-- 'headkeep.PieceAll': WHATEVER THE INPUT: true; the input reads as it did. -/
def pieceAllSpec : ChangeSpec := { name := "pieceAll", fn := fun _ => fun
  | [d1, d2, d3] => { results := [.lit (.bool true)], args := [d1, d2, d3] }
  | _ => none }
def pieceAllRow : OpenClaim := { program := "ytjgkcokffpbgnaa", sum := "b97a88f0e014d2fc59b9dfc13256d4236fb6cb88f80185589b85f19d95987016", func := "headway/headkeep.PieceAll", spec := "pieceAll", apart := false }
def PieceAllSaid : Prop := pieceAllRow.holds Try.pinned (OpenSpec.ofChange pieceAllSpec)

/-- ITS FALSE NEIGHBOUR: 'it returns false'. Refute it at one input. -/
def pieceAllWrong : ChangeSpec := { name := "pieceAll", fn := fun _ => fun
  | [d1, d2, d3] => { results := [.lit (.bool false)], args := [d1, d2, d3] }
  | _ => none }
def PieceAllWrongFalsely : Prop := pieceAllRow.holds Try.pinned (OpenSpec.ofChange pieceAllWrong)

/- THE SECOND FORM. 'bulk': how many values and letters a reading holds, each counted each time it is reached (what is shared counts as often as it is met; a slice's spare places count too). A statement '..UptoSaid' is the law's where the arguments, and the package variables that the reading takes, are together of bulk at most 1048576: NARROWER than '..Said'. Prove '..Said' where nothing that the law and all that it calls make is longer than what came in: it says more and counts as full. Else prove '..UptoSaid'. A law counts once. -/
mutual
def uptoBulk {H : Type} : DataW H → Nat
  | .lit (.string bytes) => bytes.length + 1
  | .lit _ => 1
  | .nil => 1
  | .ptr d => uptoBulk d + 1
  | .slice elems spare => uptoBulkAll elems + uptoBulkAll spare + 1
  | .agg parts => uptoBulkAll parts + 1
  | .iface _ d => uptoBulk d + 1
  | .map entries => uptoBulkEntries entries + 1
  | .held _ => 1
def uptoBulkAll {H : Type} : List (DataW H) → Nat
  | [] => 0
  | d :: r => uptoBulk d + uptoBulkAll r
def uptoBulkEntries {H : Type} : List (Lit × DataW H) → Nat
  | [] => 0
  | x :: r => uptoBulkEntry x + uptoBulkEntries r
def uptoBulkEntry {H : Type} : Lit × DataW H → Nat
  | (.string bytes, d) => bytes.length + uptoBulk d + 1
  | (_, d) => uptoBulk d + 1
 end
def uptoSmall : (H : Type) → List (DataW H) → Bool := fun _ ds => decide (uptoBulkAll ds ≤ 1048576)
def OpenSpec.upto (s : _root_.Go.ChangeSpec) : _root_.Go.OpenSpec := { _root_.Go.OpenSpec.ofChange s with cond := some uptoSmall }

/-- 'headkeep.LeaseLater', WHERE WHAT IT READS IS OF BULK AT MOST 1048576: true; the input reads as it did. -/
def leaseLaterUptoRow : OpenClaim := { program := "ytjgkcokffpbgnaa", sum := "b97a88f0e014d2fc59b9dfc13256d4236fb6cb88f80185589b85f19d95987016", func := "headway/headkeep.LeaseLater", spec := "leaseLater", apart := false, narrowed := true }
def LeaseLaterUptoSaid : Prop := leaseLaterUptoRow.holds Try.pinned (OpenSpec.upto leaseLaterSpec)

/-- 'headkeep.LeasePins', WHERE WHAT IT READS IS OF BULK AT MOST 1048576: true; the input reads as it did. -/
def leasePinsUptoRow : OpenClaim := { program := "ytjgkcokffpbgnaa", sum := "b97a88f0e014d2fc59b9dfc13256d4236fb6cb88f80185589b85f19d95987016", func := "headway/headkeep.LeasePins", spec := "leasePins", apart := false, narrowed := true }
def LeasePinsUptoSaid : Prop := leasePinsUptoRow.holds Try.pinned (OpenSpec.upto leasePinsSpec)

/-- 'headkeep.LeaseHolds', WHERE WHAT IT READS IS OF BULK AT MOST 1048576: true; the input reads as it did. -/
def leaseHoldsUptoRow : OpenClaim := { program := "ytjgkcokffpbgnaa", sum := "b97a88f0e014d2fc59b9dfc13256d4236fb6cb88f80185589b85f19d95987016", func := "headway/headkeep.LeaseHolds", spec := "leaseHolds", inPlace := ["slices.overlaps[headway/api.Lease]"], apart := false, narrowed := true }
def LeaseHoldsUptoSaid : Prop := leaseHoldsUptoRow.holds Try.pinned (OpenSpec.upto leaseHoldsSpec)

/-- 'headkeep.LeaseTurns', WHERE WHAT IT READS IS OF BULK AT MOST 1048576: true; the input reads as it did. -/
def leaseTurnsUptoRow : OpenClaim := { program := "ytjgkcokffpbgnaa", sum := "b97a88f0e014d2fc59b9dfc13256d4236fb6cb88f80185589b85f19d95987016", func := "headway/headkeep.LeaseTurns", spec := "leaseTurns", inPlace := ["slices.overlaps[headway/api.Lease]"], unfollowed := true, recurses := true, apart := false, narrowed := true }
def LeaseTurnsUptoSaid : Prop := leaseTurnsUptoRow.holds Try.pinned (OpenSpec.upto leaseTurnsSpec)

/-- 'headkeep.PieceOnce', WHERE WHAT IT READS IS OF BULK AT MOST 1048576: true; the input reads as it did. -/
def pieceOnceUptoRow : OpenClaim := { program := "ytjgkcokffpbgnaa", sum := "b97a88f0e014d2fc59b9dfc13256d4236fb6cb88f80185589b85f19d95987016", func := "headway/headkeep.PieceOnce", spec := "pieceOnce", apart := false, narrowed := true }
def PieceOnceUptoSaid : Prop := pieceOnceUptoRow.holds Try.pinned (OpenSpec.upto pieceOnceSpec)

/-- 'headkeep.PieceAll', WHERE WHAT IT READS IS OF BULK AT MOST 1048576: true; the input reads as it did. -/
def pieceAllUptoRow : OpenClaim := { program := "ytjgkcokffpbgnaa", sum := "b97a88f0e014d2fc59b9dfc13256d4236fb6cb88f80185589b85f19d95987016", func := "headway/headkeep.PieceAll", spec := "pieceAll", apart := false, narrowed := true }
def PieceAllUptoSaid : Prop := pieceAllUptoRow.holds Try.pinned (OpenSpec.upto pieceAllSpec)

end Rows
end Go.Proofs.Ytjgkcokffpbgnaa
