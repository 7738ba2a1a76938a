/-
  No cell of these rows narrows 'for every input' (looked for: loops, veiled, ifaces, maps, wideKeys, modest, calm, conditions, laid).
  DERIVED. THE GIVEN ROWS OF THIS SEAT. 12 by the template 'for every input the law returns true; each argument reads behind the call as it read before'; 0 by the template 'total and deterministic' (their statements: YtbadhngjkjoiiaaTotals.lean).
  GIVEN WITH THE SEED: the statements are not yours to turn. If you find one false, say at which input.
  Laid BY PROGRAM, IN A SANDBOX (cutbox-rows.mjs): the forced cells as the released guide's own fill.sh prints them over the translation b6dab2bf7057adef… (all of the seat's roots in one cut). By AI agents, Wed Nov 11 2026. No macro, syntax, notation, axiom, sorry.
-/
import Derived.Test.YtbadhngjkjoiiaaChecked
import GoSem.Claim
import GoSem.ClaimJoined
import GoSem.ClaimMapViews
import Derived.JoinedTies
import Derived.KernelRfl
namespace Go.Proofs.Ytbadhngjkjoiiaa
/- THE CELL 'sum', in the pinned program and in every row, IS THE sha256 OF THE DUMP (.gsa) THAT YtbadhngjkjoiiaaProg.lean LOADS. Nothing in Lean hashes anything: it is a label: what it is worth is what the hold of that sum in a sandbox is worth. -/
noncomputable def Try.pinned : Pinned := { name := "ytbadhngjkjoiiaa", sum := "b6dab2bf7057adefa8fd8ef517206ee35c2c750f1e27a7152963e846882eb301", checked := Try.checked }
namespace Rows
def none {H : Type} : Left H := { results := [], args := [] }

/-- 'headkeep.CatchEver': WHATEVER THE INPUT: true; the input reads as it did. -/
def catchEverSpec : ChangeSpec := { name := "catchEver", fn := fun _ => fun
  | [d1, d2, d3] => { results := [.lit (.bool true)], args := [d1, d2, d3] }
  | _ => none }
def catchEverRow : OpenClaim := { program := "ytbadhngjkjoiiaa", sum := "b6dab2bf7057adefa8fd8ef517206ee35c2c750f1e27a7152963e846882eb301", func := "headway/headkeep.CatchEver", spec := "catchEver", apart := false }
def CatchEverSaid : Prop := catchEverRow.holds Try.pinned (OpenSpec.ofChange catchEverSpec)

/-- ITS FALSE NEIGHBOUR: 'it returns false'. Refute it at one input. -/
def catchEverWrong : ChangeSpec := { name := "catchEver", fn := fun _ => fun
  | [d1, d2, d3] => { results := [.lit (.bool false)], args := [d1, d2, d3] }
  | _ => none }
def CatchEverWrongFalsely : Prop := catchEverRow.holds Try.pinned (OpenSpec.ofChange catchEverWrong)

/-- 'headkeep.CatchFaster': WHATEVER THE INPUT: true; the input reads as it did. -/
def catchFasterSpec : ChangeSpec := { name := "catchFaster", fn := fun _ => fun
  | [d1, d2, d3, d4, d5, d6] => { results := [.lit (.bool true)], args := [d1, d2, d3, d4, d5, d6] }
  | _ => none }
def catchFasterRow : OpenClaim := { program := "ytbadhngjkjoiiaa", sum := "b6dab2bf7057adefa8fd8ef517206ee35c2c750f1e27a7152963e846882eb301", func := "headway/headkeep.CatchFaster", spec := "catchFaster", apart := false }
def CatchFasterSaid : Prop := catchFasterRow.holds Try.pinned (OpenSpec.ofChange catchFasterSpec)

/-- ITS FALSE NEIGHBOUR: 'it returns false'. Refute it at one input. -/
def catchFasterWrong : ChangeSpec := { name := "catchFaster", fn := fun _ => fun
  | [d1, d2, d3, d4, d5, d6] => { results := [.lit (.bool false)], args := [d1, d2, d3, d4, d5, d6] }
  | _ => none }
def CatchFasterWrongFalsely : Prop := catchFasterRow.holds Try.pinned (OpenSpec.ofChange catchFasterWrong)

/-- 'headkeep.CatchJoins': WHATEVER THE INPUT: true; the input reads as it did. -/
def catchJoinsSpec : ChangeSpec := { name := "catchJoins", fn := fun _ => fun
  | [d1, d2, d3, d4] => { results := [.lit (.bool true)], args := [d1, d2, d3, d4] }
  | _ => none }
def catchJoinsRow : OpenClaim := { program := "ytbadhngjkjoiiaa", sum := "b6dab2bf7057adefa8fd8ef517206ee35c2c750f1e27a7152963e846882eb301", func := "headway/headkeep.CatchJoins", spec := "catchJoins", apart := false }
def CatchJoinsSaid : Prop := catchJoinsRow.holds Try.pinned (OpenSpec.ofChange catchJoinsSpec)

/-- ITS FALSE NEIGHBOUR: 'it returns false'. Refute it at one input. -/
def catchJoinsWrong : ChangeSpec := { name := "catchJoins", fn := fun _ => fun
  | [d1, d2, d3, d4] => { results := [.lit (.bool false)], args := [d1, d2, d3, d4] }
  | _ => none }
def CatchJoinsWrongFalsely : Prop := catchJoinsRow.holds Try.pinned (OpenSpec.ofChange catchJoinsWrong)

/-- 'headkeep.PlanRoom': WHATEVER THE INPUT: true; the input reads as it did. -/
def planRoomSpec : ChangeSpec := { name := "planRoom", fn := fun _ => fun
  | [d1, d2, d3] => { results := [.lit (.bool true)], args := [d1, d2, d3] }
  | _ => none }
def planRoomRow : OpenClaim := { program := "ytbadhngjkjoiiaa", sum := "b6dab2bf7057adefa8fd8ef517206ee35c2c750f1e27a7152963e846882eb301", func := "headway/headkeep.PlanRoom", spec := "planRoom", apart := false }
def PlanRoomSaid : Prop := planRoomRow.holds Try.pinned (OpenSpec.ofChange planRoomSpec)

/-- ITS FALSE NEIGHBOUR: 'it returns false'. Refute it at one input. -/
def planRoomWrong : ChangeSpec := { name := "planRoom", fn := fun _ => fun
  | [d1, d2, d3] => { results := [.lit (.bool false)], args := [d1, d2, d3] }
  | _ => none }
def PlanRoomWrongFalsely : Prop := planRoomRow.holds Try.pinned (OpenSpec.ofChange planRoomWrong)

/-- 'headkeep.PlanGalois': WHATEVER THE INPUT: true; the input reads as it did. -/
def planGaloisSpec : ChangeSpec := { name := "planGalois", fn := fun _ => fun
  | [d1, d2, d3, d4] => { results := [.lit (.bool true)], args := [d1, d2, d3, d4] }
  | _ => none }
def planGaloisRow : OpenClaim := { program := "ytbadhngjkjoiiaa", sum := "b6dab2bf7057adefa8fd8ef517206ee35c2c750f1e27a7152963e846882eb301", func := "headway/headkeep.PlanGalois", spec := "planGalois", apart := false }
def PlanGaloisSaid : Prop := planGaloisRow.holds Try.pinned (OpenSpec.ofChange planGaloisSpec)

/-- ITS FALSE NEIGHBOUR: 'it returns false'. Refute it at one input. -/
def planGaloisWrong : ChangeSpec := { name := "planGalois", fn := fun _ => fun
  | [d1, d2, d3, d4] => { results := [.lit (.bool false)], args := [d1, d2, d3, d4] }
  | _ => none }
def PlanGaloisWrongFalsely : Prop := planGaloisRow.holds Try.pinned (OpenSpec.ofChange planGaloisWrong)

/-- 'headkeep.PlanLeast': WHATEVER THE INPUT: true; the input reads as it did. -/
def planLeastSpec : ChangeSpec := { name := "planLeast", fn := fun _ => fun
  | [d1, d2, d3] => { results := [.lit (.bool true)], args := [d1, d2, d3] }
  | _ => none }
def planLeastRow : OpenClaim := { program := "ytbadhngjkjoiiaa", sum := "b6dab2bf7057adefa8fd8ef517206ee35c2c750f1e27a7152963e846882eb301", func := "headway/headkeep.PlanLeast", spec := "planLeast", apart := false }
def PlanLeastSaid : Prop := planLeastRow.holds Try.pinned (OpenSpec.ofChange planLeastSpec)

/-- ITS FALSE NEIGHBOUR: 'it returns false'. Refute it at one input. -/
def planLeastWrong : ChangeSpec := { name := "planLeast", fn := fun _ => fun
  | [d1, d2, d3] => { results := [.lit (.bool false)], args := [d1, d2, d3] }
  | _ => none }
def PlanLeastWrongFalsely : Prop := planLeastRow.holds Try.pinned (OpenSpec.ofChange planLeastWrong)

/-- 'headkeep.PlanGrows': WHATEVER THE INPUT: true; the input reads as it did. -/
def planGrowsSpec : ChangeSpec := { name := "planGrows", fn := fun _ => fun
  | [d1, d2, d3, d4, d5, d6] => { results := [.lit (.bool true)], args := [d1, d2, d3, d4, d5, d6] }
  | _ => none }
def planGrowsRow : OpenClaim := { program := "ytbadhngjkjoiiaa", sum := "b6dab2bf7057adefa8fd8ef517206ee35c2c750f1e27a7152963e846882eb301", func := "headway/headkeep.PlanGrows", spec := "planGrows", apart := false }
def PlanGrowsSaid : Prop := planGrowsRow.holds Try.pinned (OpenSpec.ofChange planGrowsSpec)

/-- ITS FALSE NEIGHBOUR: 'it returns false'. Refute it at one input. -/
def planGrowsWrong : ChangeSpec := { name := "planGrows", fn := fun _ => fun
  | [d1, d2, d3, d4, d5, d6] => { results := [.lit (.bool false)], args := [d1, d2, d3, d4, d5, d6] }
  | _ => none }
def PlanGrowsWrongFalsely : Prop := planGrowsRow.holds Try.pinned (OpenSpec.ofChange planGrowsWrong)

/-- 'headkeep.LeaseLater': WHATEVER THE INPUT: true; the input reads as it did. -/
def leaseLaterSpec : ChangeSpec := { name := "leaseLater", fn := fun _ => fun
  | [d1, d2, d3, d4, d5] => { results := [.lit (.bool true)], args := [d1, d2, d3, d4, d5] }
  | _ => none }
def leaseLaterRow : OpenClaim := { program := "ytbadhngjkjoiiaa", sum := "b6dab2bf7057adefa8fd8ef517206ee35c2c750f1e27a7152963e846882eb301", func := "headway/headkeep.LeaseLater", spec := "leaseLater", apart := false }
def LeaseLaterSaid : Prop := leaseLaterRow.holds Try.pinned (OpenSpec.ofChange leaseLaterSpec)

/-- ITS FALSE NEIGHBOUR: 'it returns false'. Refute it at one input. -/
def leaseLaterWrong : ChangeSpec := { name := "leaseLater", fn := fun _ => fun
  | [d1, d2, d3, d4, d5] => { results := [.lit (.bool false)], args := [d1, d2, d3, d4, d5] }
  | _ => none }
def LeaseLaterWrongFalsely : Prop := leaseLaterRow.holds Try.pinned (OpenSpec.ofChange leaseLaterWrong)

/-- 'headkeep.LeasePins': WHATEVER THE INPUT: true; the input reads as it did. -/
def leasePinsSpec : ChangeSpec := { name := "leasePins", fn := fun _ => fun
  | [d1, d2] => { results := [.lit (.bool true)], args := [d1, d2] }
  | _ => none }
def leasePinsRow : OpenClaim := { program := "ytbadhngjkjoiiaa", sum := "b6dab2bf7057adefa8fd8ef517206ee35c2c750f1e27a7152963e846882eb301", func := "headway/headkeep.LeasePins", spec := "leasePins", apart := false }
def LeasePinsSaid : Prop := leasePinsRow.holds Try.pinned (OpenSpec.ofChange leasePinsSpec)

/-- ITS FALSE NEIGHBOUR: 'it returns false'. Refute it at one input. -/
def leasePinsWrong : ChangeSpec := { name := "leasePins", fn := fun _ => fun
  | [d1, d2] => { results := [.lit (.bool false)], args := [d1, d2] }
  | _ => none }
def LeasePinsWrongFalsely : Prop := leasePinsRow.holds Try.pinned (OpenSpec.ofChange leasePinsWrong)

/-- 'headkeep.LeaseHolds': WHATEVER THE INPUT: true; the input reads as it did. -/
def leaseHoldsSpec : ChangeSpec := { name := "leaseHolds", fn := fun _ => fun
  | [d1, d2, d3, d4] => { results := [.lit (.bool true)], args := [d1, d2, d3, d4] }
  | _ => none }
def leaseHoldsRow : OpenClaim := { program := "ytbadhngjkjoiiaa", sum := "b6dab2bf7057adefa8fd8ef517206ee35c2c750f1e27a7152963e846882eb301", func := "headway/headkeep.LeaseHolds", spec := "leaseHolds", inPlace := ["slices.overlaps[headway/api.Lease]"], apart := false }
def LeaseHoldsSaid : Prop := leaseHoldsRow.holds Try.pinned (OpenSpec.ofChange leaseHoldsSpec)

/-- ITS FALSE NEIGHBOUR: 'it returns false'. Refute it at one input. -/
def leaseHoldsWrong : ChangeSpec := { name := "leaseHolds", fn := fun _ => fun
  | [d1, d2, d3, d4] => { results := [.lit (.bool false)], args := [d1, d2, d3, d4] }
  | _ => none }
def LeaseHoldsWrongFalsely : Prop := leaseHoldsRow.holds Try.pinned (OpenSpec.ofChange leaseHoldsWrong)

/-- 'headkeep.LeaseTurns': WHATEVER THE INPUT: true; the input reads as it did. -/
def leaseTurnsSpec : ChangeSpec := { name := "leaseTurns", fn := fun _ => fun
  | [d1, d2, d3, d4, d5] => { results := [.lit (.bool true)], args := [d1, d2, d3, d4, d5] }
  | _ => none }
def leaseTurnsRow : OpenClaim := { program := "ytbadhngjkjoiiaa", sum := "b6dab2bf7057adefa8fd8ef517206ee35c2c750f1e27a7152963e846882eb301", func := "headway/headkeep.LeaseTurns", spec := "leaseTurns", inPlace := ["slices.overlaps[headway/api.Lease]"], unfollowed := true, recurses := true, apart := false }
def LeaseTurnsSaid : Prop := leaseTurnsRow.holds Try.pinned (OpenSpec.ofChange leaseTurnsSpec)

/-- ITS FALSE NEIGHBOUR: 'it returns false'. Refute it at one input. -/
def leaseTurnsWrong : ChangeSpec := { name := "leaseTurns", fn := fun _ => fun
  | [d1, d2, d3, d4, d5] => { results := [.lit (.bool false)], args := [d1, d2, d3, d4, d5] }
  | _ => none }
def LeaseTurnsWrongFalsely : Prop := leaseTurnsRow.holds Try.pinned (OpenSpec.ofChange leaseTurnsWrong)

/-- 'headkeep.CatchBy': WHATEVER THE INPUT: true; the input reads as it did. -/
def catchBySpec : ChangeSpec := { name := "catchBy", fn := fun _ => fun
  | [d1, d2, d3, d4] => { results := [.lit (.bool true)], args := [d1, d2, d3, d4] }
  | _ => none }
def catchByRow : OpenClaim := { program := "ytbadhngjkjoiiaa", sum := "b6dab2bf7057adefa8fd8ef517206ee35c2c750f1e27a7152963e846882eb301", func := "headway/headkeep.CatchBy", spec := "catchBy", apart := false }
def CatchBySaid : Prop := catchByRow.holds Try.pinned (OpenSpec.ofChange catchBySpec)

/-- ITS FALSE NEIGHBOUR: 'it returns false'. Refute it at one input. -/
def catchByWrong : ChangeSpec := { name := "catchBy", fn := fun _ => fun
  | [d1, d2, d3, d4] => { results := [.lit (.bool false)], args := [d1, d2, d3, d4] }
  | _ => none }
def CatchByWrongFalsely : Prop := catchByRow.holds Try.pinned (OpenSpec.ofChange catchByWrong)

/- THE SECOND FORM. 'bulk': how many values and letters a reading holds, each counted each time it is reached (what is shared counts as often as it is met; a slice's spare places count too). A statement '..UptoSaid' is the law's where the arguments, and the package variables that the reading takes, are together of bulk at most 1048576: NARROWER than '..Said'. Prove '..Said' where nothing that the law and all that it calls make is longer than what came in: it says more and counts as full. Else prove '..UptoSaid'. A law counts once. -/
mutual
def uptoBulk {H : Type} : DataW H → Nat
  | .lit (.string bytes) => bytes.length + 1
  | .lit _ => 1
  | .nil => 1
  | .ptr d => uptoBulk d + 1
  | .slice elems spare => uptoBulkAll elems + uptoBulkAll spare + 1
  | .agg parts => uptoBulkAll parts + 1
  | .iface _ d => uptoBulk d + 1
  | .map entries => uptoBulkEntries entries + 1
  | .held _ => 1
def uptoBulkAll {H : Type} : List (DataW H) → Nat
  | [] => 0
  | d :: r => uptoBulk d + uptoBulkAll r
def uptoBulkEntries {H : Type} : List (Lit × DataW H) → Nat
  | [] => 0
  | x :: r => uptoBulkEntry x + uptoBulkEntries r
def uptoBulkEntry {H : Type} : Lit × DataW H → Nat
  | (.string bytes, d) => bytes.length + uptoBulk d + 1
  | (_, d) => uptoBulk d + 1
 end
def uptoSmall : (H : Type) → List (DataW H) → Bool := fun _ ds => decide (uptoBulkAll ds ≤ 1048576)
def OpenSpec.upto (s : _root_.Go.ChangeSpec) : _root_.Go.OpenSpec := { _root_.Go.OpenSpec.ofChange s with cond := some uptoSmall }

/-- 'headkeep.CatchEver', WHERE WHAT IT READS IS OF BULK AT MOST 1048576: true; the input reads as it did. -/
def catchEverUptoRow : OpenClaim := { program := "ytbadhngjkjoiiaa", sum := "b6dab2bf7057adefa8fd8ef517206ee35c2c750f1e27a7152963e846882eb301", func := "headway/headkeep.CatchEver", spec := "catchEver", apart := false, narrowed := true }
def CatchEverUptoSaid : Prop := catchEverUptoRow.holds Try.pinned (OpenSpec.upto catchEverSpec)

/-- 'headkeep.CatchFaster', WHERE WHAT IT READS IS OF BULK AT MOST 1048576: true; the input reads as it did. -/
def catchFasterUptoRow : OpenClaim := { program := "ytbadhngjkjoiiaa", sum := "b6dab2bf7057adefa8fd8ef517206ee35c2c750f1e27a7152963e846882eb301", func := "headway/headkeep.CatchFaster", spec := "catchFaster", apart := false, narrowed := true }
def CatchFasterUptoSaid : Prop := catchFasterUptoRow.holds Try.pinned (OpenSpec.upto catchFasterSpec)

/-- 'headkeep.CatchJoins', WHERE WHAT IT READS IS OF BULK AT MOST 1048576: true; the input reads as it did. -/
def catchJoinsUptoRow : OpenClaim := { program := "ytbadhngjkjoiiaa", sum := "b6dab2bf7057adefa8fd8ef517206ee35c2c750f1e27a7152963e846882eb301", func := "headway/headkeep.CatchJoins", spec := "catchJoins", apart := false, narrowed := true }
def CatchJoinsUptoSaid : Prop := catchJoinsUptoRow.holds Try.pinned (OpenSpec.upto catchJoinsSpec)

/-- 'headkeep.PlanRoom', WHERE WHAT IT READS IS OF BULK AT MOST 1048576: true; the input reads as it did. -/
def planRoomUptoRow : OpenClaim := { program := "ytbadhngjkjoiiaa", sum := "b6dab2bf7057adefa8fd8ef517206ee35c2c750f1e27a7152963e846882eb301", func := "headway/headkeep.PlanRoom", spec := "planRoom", apart := false, narrowed := true }
def PlanRoomUptoSaid : Prop := planRoomUptoRow.holds Try.pinned (OpenSpec.upto planRoomSpec)

/-- 'headkeep.PlanGalois', WHERE WHAT IT READS IS OF BULK AT MOST 1048576: true; the input reads as it did. -/
def planGaloisUptoRow : OpenClaim := { program := "ytbadhngjkjoiiaa", sum := "b6dab2bf7057adefa8fd8ef517206ee35c2c750f1e27a7152963e846882eb301", func := "headway/headkeep.PlanGalois", spec := "planGalois", apart := false, narrowed := true }
def PlanGaloisUptoSaid : Prop := planGaloisUptoRow.holds Try.pinned (OpenSpec.upto planGaloisSpec)

/-- 'headkeep.PlanLeast', WHERE WHAT IT READS IS OF BULK AT MOST 1048576: true; the input reads as it did. -/
def planLeastUptoRow : OpenClaim := { program := "ytbadhngjkjoiiaa", sum := "b6dab2bf7057adefa8fd8ef517206ee35c2c750f1e27a7152963e846882eb301", func := "headway/headkeep.PlanLeast", spec := "planLeast", apart := false, narrowed := true }
def PlanLeastUptoSaid : Prop := planLeastUptoRow.holds Try.pinned (OpenSpec.upto planLeastSpec)

/-- 'headkeep.PlanGrows', WHERE WHAT IT READS IS OF BULK AT MOST 1048576: true; the input reads as it did. -/
def planGrowsUptoRow : OpenClaim := { program := "ytbadhngjkjoiiaa", sum := "b6dab2bf7057adefa8fd8ef517206ee35c2c750f1e27a7152963e846882eb301", func := "headway/headkeep.PlanGrows", spec := "planGrows", apart := false, narrowed := true }
def PlanGrowsUptoSaid : Prop := planGrowsUptoRow.holds Try.pinned (OpenSpec.upto planGrowsSpec)

/-- 'headkeep.LeaseLater', WHERE WHAT IT READS IS OF BULK AT MOST 1048576: true; the input reads as it did. -/
def leaseLaterUptoRow : OpenClaim := { program := "ytbadhngjkjoiiaa", sum := "b6dab2bf7057adefa8fd8ef517206ee35c2c750f1e27a7152963e846882eb301", func := "headway/headkeep.LeaseLater", spec := "leaseLater", apart := false, narrowed := true }
def LeaseLaterUptoSaid : Prop := leaseLaterUptoRow.holds Try.pinned (OpenSpec.upto leaseLaterSpec)

/-- 'headkeep.LeasePins', WHERE WHAT IT READS IS OF BULK AT MOST 1048576: true; the input reads as it did. -/
def leasePinsUptoRow : OpenClaim := { program := "ytbadhngjkjoiiaa", sum := "b6dab2bf7057adefa8fd8ef517206ee35c2c750f1e27a7152963e846882eb301", func := "headway/headkeep.LeasePins", spec := "leasePins", apart := false, narrowed := true }
def LeasePinsUptoSaid : Prop := leasePinsUptoRow.holds Try.pinned (OpenSpec.upto leasePinsSpec)

/-- 'headkeep.LeaseHolds', WHERE WHAT IT READS IS OF BULK AT MOST 1048576: true; the input reads as it did. -/
def leaseHoldsUptoRow : OpenClaim := { program := "ytbadhngjkjoiiaa", sum := "b6dab2bf7057adefa8fd8ef517206ee35c2c750f1e27a7152963e846882eb301", func := "headway/headkeep.LeaseHolds", spec := "leaseHolds", inPlace := ["slices.overlaps[headway/api.Lease]"], apart := false, narrowed := true }
def LeaseHoldsUptoSaid : Prop := leaseHoldsUptoRow.holds Try.pinned (OpenSpec.upto leaseHoldsSpec)

/-- 'headkeep.LeaseTurns', WHERE WHAT IT READS IS OF BULK AT MOST 1048576: true; the input reads as it did. -/
def leaseTurnsUptoRow : OpenClaim := { program := "ytbadhngjkjoiiaa", sum := "b6dab2bf7057adefa8fd8ef517206ee35c2c750f1e27a7152963e846882eb301", func := "headway/headkeep.LeaseTurns", spec := "leaseTurns", inPlace := ["slices.overlaps[headway/api.Lease]"], unfollowed := true, recurses := true, apart := false, narrowed := true }
def LeaseTurnsUptoSaid : Prop := leaseTurnsUptoRow.holds Try.pinned (OpenSpec.upto leaseTurnsSpec)

/-- 'headkeep.CatchBy', WHERE WHAT IT READS IS OF BULK AT MOST 1048576: true; the input reads as it did. -/
def catchByUptoRow : OpenClaim := { program := "ytbadhngjkjoiiaa", sum := "b6dab2bf7057adefa8fd8ef517206ee35c2c750f1e27a7152963e846882eb301", func := "headway/headkeep.CatchBy", spec := "catchBy", apart := false, narrowed := true }
def CatchByUptoSaid : Prop := catchByUptoRow.holds Try.pinned (OpenSpec.upto catchBySpec)

end Rows
end Go.Proofs.Ytbadhngjkjoiiaa
