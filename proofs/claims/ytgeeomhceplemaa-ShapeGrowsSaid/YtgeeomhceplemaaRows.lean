/-
  No cell of these rows narrows 'for every input' (looked for: loops, veiled, ifaces, maps, wideKeys, modest, calm, conditions, laid).
  DERIVED. THE GIVEN ROWS OF THIS SEAT. 12 by the template 'for every input the law returns true; each argument reads behind the call as it read before'; 0 by the template 'total and deterministic' (their statements: YtgeeomhceplemaaTotals.lean).
  GIVEN WITH THE SEED: the statements are not yours to turn. If you find one false, say at which input.
  Laid BY PROGRAM, IN A SANDBOX (cutbox-rows.mjs): the forced cells as the released guide's own fill.sh prints them over the translation 751d99dceaf7e6fc… (all of the seat's roots in one cut). By AI agents, Wed Nov 11 2026. No macro, syntax, notation, axiom, sorry.
-/
import Derived.Test.YtgeeomhceplemaaChecked
import GoSem.Claim
import GoSem.ClaimJoined
import GoSem.ClaimMapViews
import Derived.JoinedTies
import Derived.KernelRfl
namespace Go.Proofs.Ytgeeomhceplemaa
/- THE CELL 'sum', in the pinned program and in every row, IS THE sha256 OF THE DUMP (.gsa) THAT YtgeeomhceplemaaProg.lean LOADS. Nothing in Lean hashes anything: it is a label: what it is worth is what the hold of that sum in a sandbox is worth. -/
noncomputable def Try.pinned : Pinned := { name := "ytgeeomhceplemaa", sum := "751d99dceaf7e6fcafc71816fb661267c9e163ffda49e43033cb0cef927301e6", checked := Try.checked }
namespace Rows
def none {H : Type} : Left H := { results := [], args := [] }

/-- 'headkeep.ClosureLeast': WHATEVER THE INPUT: true; the input reads as it did. -/
def closureLeastSpec : ChangeSpec := { name := "closureLeast", fn := fun _ => fun
  | [d1, d2] => { results := [.lit (.bool true)], args := [d1, d2] }
  | _ => none }
def closureLeastRow : OpenClaim := { program := "ytgeeomhceplemaa", sum := "751d99dceaf7e6fcafc71816fb661267c9e163ffda49e43033cb0cef927301e6", func := "headway/headkeep.ClosureLeast", spec := "closureLeast", apart := false }
def ClosureLeastSaid : Prop := closureLeastRow.holds Try.pinned (OpenSpec.ofChange closureLeastSpec)

/-- ITS FALSE NEIGHBOUR: 'it returns false'. Refute it at one input. -/
def closureLeastWrong : ChangeSpec := { name := "closureLeast", fn := fun _ => fun
  | [d1, d2] => { results := [.lit (.bool false)], args := [d1, d2] }
  | _ => none }
def ClosureLeastWrongFalsely : Prop := closureLeastRow.holds Try.pinned (OpenSpec.ofChange closureLeastWrong)

/-- 'headkeep.ClosureConv': WHATEVER THE INPUT: true; the input reads as it did. -/
def closureConvSpec : ChangeSpec := { name := "closureConv", fn := fun _ => fun
  | [d1, d2] => { results := [.lit (.bool true)], args := [d1, d2] }
  | _ => none }
def closureConvRow : OpenClaim := { program := "ytgeeomhceplemaa", sum := "751d99dceaf7e6fcafc71816fb661267c9e163ffda49e43033cb0cef927301e6", func := "headway/headkeep.ClosureConv", spec := "closureConv", unfollowed := true, recurses := true, apart := false }
def ClosureConvSaid : Prop := closureConvRow.holds Try.pinned (OpenSpec.ofChange closureConvSpec)

/-- ITS FALSE NEIGHBOUR: 'it returns false'. Refute it at one input. -/
def closureConvWrong : ChangeSpec := { name := "closureConv", fn := fun _ => fun
  | [d1, d2] => { results := [.lit (.bool false)], args := [d1, d2] }
  | _ => none }
def ClosureConvWrongFalsely : Prop := closureConvRow.holds Try.pinned (OpenSpec.ofChange closureConvWrong)

/-- 'headkeep.DualOrders': WHATEVER THE INPUT: true; the input reads as it did. -/
def dualOrdersSpec : ChangeSpec := { name := "dualOrders", fn := fun _ => fun
  | [d1, d2, d3] => { results := [.lit (.bool true)], args := [d1, d2, d3] }
  | _ => none }
def dualOrdersRow : OpenClaim := { program := "ytgeeomhceplemaa", sum := "751d99dceaf7e6fcafc71816fb661267c9e163ffda49e43033cb0cef927301e6", func := "headway/headkeep.DualOrders", spec := "dualOrders", apart := false }
def DualOrdersSaid : Prop := dualOrdersRow.holds Try.pinned (OpenSpec.ofChange dualOrdersSpec)

/-- ITS FALSE NEIGHBOUR: 'it returns false'. Refute it at one input. -/
def dualOrdersWrong : ChangeSpec := { name := "dualOrders", fn := fun _ => fun
  | [d1, d2, d3] => { results := [.lit (.bool false)], args := [d1, d2, d3] }
  | _ => none }
def DualOrdersWrongFalsely : Prop := dualOrdersRow.holds Try.pinned (OpenSpec.ofChange dualOrdersWrong)

/-- 'headkeep.SuperMost': WHATEVER THE INPUT: true; the input reads as it did. -/
def superMostSpec : ChangeSpec := { name := "superMost", fn := fun _ => fun
  | [d] => { results := [.lit (.bool true)], args := [d] }
  | _ => none }
def superMostRow : OpenClaim := { program := "ytgeeomhceplemaa", sum := "751d99dceaf7e6fcafc71816fb661267c9e163ffda49e43033cb0cef927301e6", func := "headway/headkeep.SuperMost", spec := "superMost", apart := false }
def SuperMostSaid : Prop := superMostRow.holds Try.pinned (OpenSpec.ofChange superMostSpec)

/-- ITS FALSE NEIGHBOUR: 'it returns false'. Refute it at one input. -/
def superMostWrong : ChangeSpec := { name := "superMost", fn := fun _ => fun
  | [d] => { results := [.lit (.bool false)], args := [d] }
  | _ => none }
def SuperMostWrongFalsely : Prop := superMostRow.holds Try.pinned (OpenSpec.ofChange superMostWrong)

/-- 'headkeep.ConvLines': WHATEVER THE INPUT: true; the input reads as it did. -/
def convLinesSpec : ChangeSpec := { name := "convLines", fn := fun _ => fun
  | [d1, d2, d3, d4, d5] => { results := [.lit (.bool true)], args := [d1, d2, d3, d4, d5] }
  | _ => none }
def convLinesRow : OpenClaim := { program := "ytgeeomhceplemaa", sum := "751d99dceaf7e6fcafc71816fb661267c9e163ffda49e43033cb0cef927301e6", func := "headway/headkeep.ConvLines", spec := "convLines", unfollowed := true, recurses := true, apart := false }
def ConvLinesSaid : Prop := convLinesRow.holds Try.pinned (OpenSpec.ofChange convLinesSpec)

/-- ITS FALSE NEIGHBOUR: 'it returns false'. Refute it at one input. -/
def convLinesWrong : ChangeSpec := { name := "convLines", fn := fun _ => fun
  | [d1, d2, d3, d4, d5] => { results := [.lit (.bool false)], args := [d1, d2, d3, d4, d5] }
  | _ => none }
def ConvLinesWrongFalsely : Prop := convLinesRow.holds Try.pinned (OpenSpec.ofChange convLinesWrong)

/-- 'headkeep.ConvBuckets': WHATEVER THE INPUT: true; the input reads as it did. -/
def convBucketsSpec : ChangeSpec := { name := "convBuckets", fn := fun _ => fun
  | [d1, d2, d3, d4, d5] => { results := [.lit (.bool true)], args := [d1, d2, d3, d4, d5] }
  | _ => none }
def convBucketsRow : OpenClaim := { program := "ytgeeomhceplemaa", sum := "751d99dceaf7e6fcafc71816fb661267c9e163ffda49e43033cb0cef927301e6", func := "headway/headkeep.ConvBuckets", spec := "convBuckets", unfollowed := true, recurses := true, apart := false }
def ConvBucketsSaid : Prop := convBucketsRow.holds Try.pinned (OpenSpec.ofChange convBucketsSpec)

/-- ITS FALSE NEIGHBOUR: 'it returns false'. Refute it at one input. -/
def convBucketsWrong : ChangeSpec := { name := "convBuckets", fn := fun _ => fun
  | [d1, d2, d3, d4, d5] => { results := [.lit (.bool false)], args := [d1, d2, d3, d4, d5] }
  | _ => none }
def ConvBucketsWrongFalsely : Prop := convBucketsRow.holds Try.pinned (OpenSpec.ofChange convBucketsWrong)

/-- 'headkeep.ShapeGrows': WHATEVER THE INPUT: true; the input reads as it did. -/
def shapeGrowsSpec : ChangeSpec := { name := "shapeGrows", fn := fun _ => fun
  | [d1, d2, d3, d4, d5] => { results := [.lit (.bool true)], args := [d1, d2, d3, d4, d5] }
  | _ => none }
def shapeGrowsRow : OpenClaim := { program := "ytgeeomhceplemaa", sum := "751d99dceaf7e6fcafc71816fb661267c9e163ffda49e43033cb0cef927301e6", func := "headway/headkeep.ShapeGrows", spec := "shapeGrows", unfollowed := true, recurses := true, apart := false }
def ShapeGrowsSaid : Prop := shapeGrowsRow.holds Try.pinned (OpenSpec.ofChange shapeGrowsSpec)

/-- ITS FALSE NEIGHBOUR: 'it returns false'. Refute it at one input. -/
def shapeGrowsWrong : ChangeSpec := { name := "shapeGrows", fn := fun _ => fun
  | [d1, d2, d3, d4, d5] => { results := [.lit (.bool false)], args := [d1, d2, d3, d4, d5] }
  | _ => none }
def ShapeGrowsWrongFalsely : Prop := shapeGrowsRow.holds Try.pinned (OpenSpec.ofChange shapeGrowsWrong)

/-- 'headkeep.ShapeHolds': WHATEVER THE INPUT: true; the input reads as it did. -/
def shapeHoldsSpec : ChangeSpec := { name := "shapeHolds", fn := fun _ => fun
  | [d1, d2, d3] => { results := [.lit (.bool true)], args := [d1, d2, d3] }
  | _ => none }
def shapeHoldsRow : OpenClaim := { program := "ytgeeomhceplemaa", sum := "751d99dceaf7e6fcafc71816fb661267c9e163ffda49e43033cb0cef927301e6", func := "headway/headkeep.ShapeHolds", spec := "shapeHolds", unfollowed := true, recurses := true, apart := false }
def ShapeHoldsSaid : Prop := shapeHoldsRow.holds Try.pinned (OpenSpec.ofChange shapeHoldsSpec)

/-- ITS FALSE NEIGHBOUR: 'it returns false'. Refute it at one input. -/
def shapeHoldsWrong : ChangeSpec := { name := "shapeHolds", fn := fun _ => fun
  | [d1, d2, d3] => { results := [.lit (.bool false)], args := [d1, d2, d3] }
  | _ => none }
def ShapeHoldsWrongFalsely : Prop := shapeHoldsRow.holds Try.pinned (OpenSpec.ofChange shapeHoldsWrong)

/-- 'headkeep.ConvNeutral': WHATEVER THE INPUT: true; the input reads as it did. -/
def convNeutralSpec : ChangeSpec := { name := "convNeutral", fn := fun _ => fun
  | [d] => { results := [.lit (.bool true)], args := [d] }
  | _ => none }
def convNeutralRow : OpenClaim := { program := "ytgeeomhceplemaa", sum := "751d99dceaf7e6fcafc71816fb661267c9e163ffda49e43033cb0cef927301e6", func := "headway/headkeep.ConvNeutral", spec := "convNeutral", apart := false }
def ConvNeutralSaid : Prop := convNeutralRow.holds Try.pinned (OpenSpec.ofChange convNeutralSpec)

/-- ITS FALSE NEIGHBOUR: 'it returns false'. Refute it at one input. -/
def convNeutralWrong : ChangeSpec := { name := "convNeutral", fn := fun _ => fun
  | [d] => { results := [.lit (.bool false)], args := [d] }
  | _ => none }
def ConvNeutralWrongFalsely : Prop := convNeutralRow.holds Try.pinned (OpenSpec.ofChange convNeutralWrong)

/-- 'headkeep.TraceLeast': WHATEVER THE INPUT: true; the input reads as it did. -/
def traceLeastSpec : ChangeSpec := { name := "traceLeast", fn := fun _ => fun
  | [d1, d2] => { results := [.lit (.bool true)], args := [d1, d2] }
  | _ => none }
def traceLeastRow : OpenClaim := { program := "ytgeeomhceplemaa", sum := "751d99dceaf7e6fcafc71816fb661267c9e163ffda49e43033cb0cef927301e6", func := "headway/headkeep.TraceLeast", spec := "traceLeast", apart := false }
def TraceLeastSaid : Prop := traceLeastRow.holds Try.pinned (OpenSpec.ofChange traceLeastSpec)

/-- ITS FALSE NEIGHBOUR: 'it returns false'. Refute it at one input. -/
def traceLeastWrong : ChangeSpec := { name := "traceLeast", fn := fun _ => fun
  | [d1, d2] => { results := [.lit (.bool false)], args := [d1, d2] }
  | _ => none }
def TraceLeastWrongFalsely : Prop := traceLeastRow.holds Try.pinned (OpenSpec.ofChange traceLeastWrong)

/-- 'headkeep.TraceConv': WHATEVER THE INPUT: true; the input reads as it did. -/
def traceConvSpec : ChangeSpec := { name := "traceConv", fn := fun _ => fun
  | [d1, d2] => { results := [.lit (.bool true)], args := [d1, d2] }
  | _ => none }
def traceConvRow : OpenClaim := { program := "ytgeeomhceplemaa", sum := "751d99dceaf7e6fcafc71816fb661267c9e163ffda49e43033cb0cef927301e6", func := "headway/headkeep.TraceConv", spec := "traceConv", apart := false }
def TraceConvSaid : Prop := traceConvRow.holds Try.pinned (OpenSpec.ofChange traceConvSpec)

/-- ITS FALSE NEIGHBOUR: 'it returns false'. Refute it at one input. -/
def traceConvWrong : ChangeSpec := { name := "traceConv", fn := fun _ => fun
  | [d1, d2] => { results := [.lit (.bool false)], args := [d1, d2] }
  | _ => none }
def TraceConvWrongFalsely : Prop := traceConvRow.holds Try.pinned (OpenSpec.ofChange traceConvWrong)

/-- 'headkeep.ShaperTwice': WHATEVER THE INPUT: true; the input reads as it did. -/
def shaperTwiceSpec : ChangeSpec := { name := "shaperTwice", fn := fun _ => fun
  | [d1, d2] => { results := [.lit (.bool true)], args := [d1, d2] }
  | _ => none }
def shaperTwiceRow : OpenClaim := { program := "ytgeeomhceplemaa", sum := "751d99dceaf7e6fcafc71816fb661267c9e163ffda49e43033cb0cef927301e6", func := "headway/headkeep.ShaperTwice", spec := "shaperTwice", apart := false }
def ShaperTwiceSaid : Prop := shaperTwiceRow.holds Try.pinned (OpenSpec.ofChange shaperTwiceSpec)

/-- ITS FALSE NEIGHBOUR: 'it returns false'. Refute it at one input. -/
def shaperTwiceWrong : ChangeSpec := { name := "shaperTwice", fn := fun _ => fun
  | [d1, d2] => { results := [.lit (.bool false)], args := [d1, d2] }
  | _ => none }
def ShaperTwiceWrongFalsely : Prop := shaperTwiceRow.holds Try.pinned (OpenSpec.ofChange shaperTwiceWrong)

/- THE SECOND FORM. 'bulk': how many values and letters a reading holds, each counted each time it is reached (what is shared counts as often as it is met; a slice's spare places count too). A statement '..UptoSaid' is the law's where the arguments, and the package variables that the reading takes, are together of bulk at most 1048576: NARROWER than '..Said'. Prove '..Said' where nothing that the law and all that it calls make is longer than what came in: it says more and counts as full. Else prove '..UptoSaid'. A law counts once. -/
mutual
def uptoBulk {H : Type} : DataW H → Nat
  | .lit (.string bytes) => bytes.length + 1
  | .lit _ => 1
  | .nil => 1
  | .ptr d => uptoBulk d + 1
  | .slice elems spare => uptoBulkAll elems + uptoBulkAll spare + 1
  | .agg parts => uptoBulkAll parts + 1
  | .iface _ d => uptoBulk d + 1
  | .map entries => uptoBulkEntries entries + 1
  | .held _ => 1
def uptoBulkAll {H : Type} : List (DataW H) → Nat
  | [] => 0
  | d :: r => uptoBulk d + uptoBulkAll r
def uptoBulkEntries {H : Type} : List (Lit × DataW H) → Nat
  | [] => 0
  | x :: r => uptoBulkEntry x + uptoBulkEntries r
def uptoBulkEntry {H : Type} : Lit × DataW H → Nat
  | (.string bytes, d) => bytes.length + uptoBulk d + 1
  | (_, d) => uptoBulk d + 1
 end
def uptoSmall : (H : Type) → List (DataW H) → Bool := fun _ ds => decide (uptoBulkAll ds ≤ 1048576)
def OpenSpec.upto (s : _root_.Go.ChangeSpec) : _root_.Go.OpenSpec := { _root_.Go.OpenSpec.ofChange s with cond := some uptoSmall }

/-- 'headkeep.ClosureLeast', WHERE WHAT IT READS IS OF BULK AT MOST 1048576: true; the input reads as it did. -/
def closureLeastUptoRow : OpenClaim := { program := "ytgeeomhceplemaa", sum := "751d99dceaf7e6fcafc71816fb661267c9e163ffda49e43033cb0cef927301e6", func := "headway/headkeep.ClosureLeast", spec := "closureLeast", apart := false, narrowed := true }
def ClosureLeastUptoSaid : Prop := closureLeastUptoRow.holds Try.pinned (OpenSpec.upto closureLeastSpec)

/-- 'headkeep.ClosureConv', WHERE WHAT IT READS IS OF BULK AT MOST 1048576: true; the input reads as it did. -/
def closureConvUptoRow : OpenClaim := { program := "ytgeeomhceplemaa", sum := "751d99dceaf7e6fcafc71816fb661267c9e163ffda49e43033cb0cef927301e6", func := "headway/headkeep.ClosureConv", spec := "closureConv", unfollowed := true, recurses := true, apart := false, narrowed := true }
def ClosureConvUptoSaid : Prop := closureConvUptoRow.holds Try.pinned (OpenSpec.upto closureConvSpec)

/-- 'headkeep.DualOrders', WHERE WHAT IT READS IS OF BULK AT MOST 1048576: true; the input reads as it did. -/
def dualOrdersUptoRow : OpenClaim := { program := "ytgeeomhceplemaa", sum := "751d99dceaf7e6fcafc71816fb661267c9e163ffda49e43033cb0cef927301e6", func := "headway/headkeep.DualOrders", spec := "dualOrders", apart := false, narrowed := true }
def DualOrdersUptoSaid : Prop := dualOrdersUptoRow.holds Try.pinned (OpenSpec.upto dualOrdersSpec)

/-- 'headkeep.SuperMost', WHERE WHAT IT READS IS OF BULK AT MOST 1048576: true; the input reads as it did. -/
def superMostUptoRow : OpenClaim := { program := "ytgeeomhceplemaa", sum := "751d99dceaf7e6fcafc71816fb661267c9e163ffda49e43033cb0cef927301e6", func := "headway/headkeep.SuperMost", spec := "superMost", apart := false, narrowed := true }
def SuperMostUptoSaid : Prop := superMostUptoRow.holds Try.pinned (OpenSpec.upto superMostSpec)

/-- 'headkeep.ConvLines', WHERE WHAT IT READS IS OF BULK AT MOST 1048576: true; the input reads as it did. -/
def convLinesUptoRow : OpenClaim := { program := "ytgeeomhceplemaa", sum := "751d99dceaf7e6fcafc71816fb661267c9e163ffda49e43033cb0cef927301e6", func := "headway/headkeep.ConvLines", spec := "convLines", unfollowed := true, recurses := true, apart := false, narrowed := true }
def ConvLinesUptoSaid : Prop := convLinesUptoRow.holds Try.pinned (OpenSpec.upto convLinesSpec)

/-- 'headkeep.ConvBuckets', WHERE WHAT IT READS IS OF BULK AT MOST 1048576: true; the input reads as it did. -/
def convBucketsUptoRow : OpenClaim := { program := "ytgeeomhceplemaa", sum := "751d99dceaf7e6fcafc71816fb661267c9e163ffda49e43033cb0cef927301e6", func := "headway/headkeep.ConvBuckets", spec := "convBuckets", unfollowed := true, recurses := true, apart := false, narrowed := true }
def ConvBucketsUptoSaid : Prop := convBucketsUptoRow.holds Try.pinned (OpenSpec.upto convBucketsSpec)

/-- 'headkeep.ShapeGrows', WHERE WHAT IT READS IS OF BULK AT MOST 1048576: true; the input reads as it did. -/
def shapeGrowsUptoRow : OpenClaim := { program := "ytgeeomhceplemaa", sum := "751d99dceaf7e6fcafc71816fb661267c9e163ffda49e43033cb0cef927301e6", func := "headway/headkeep.ShapeGrows", spec := "shapeGrows", unfollowed := true, recurses := true, apart := false, narrowed := true }
def ShapeGrowsUptoSaid : Prop := shapeGrowsUptoRow.holds Try.pinned (OpenSpec.upto shapeGrowsSpec)

/-- 'headkeep.ShapeHolds', WHERE WHAT IT READS IS OF BULK AT MOST 1048576: true; the input reads as it did. -/
def shapeHoldsUptoRow : OpenClaim := { program := "ytgeeomhceplemaa", sum := "751d99dceaf7e6fcafc71816fb661267c9e163ffda49e43033cb0cef927301e6", func := "headway/headkeep.ShapeHolds", spec := "shapeHolds", unfollowed := true, recurses := true, apart := false, narrowed := true }
def ShapeHoldsUptoSaid : Prop := shapeHoldsUptoRow.holds Try.pinned (OpenSpec.upto shapeHoldsSpec)

/-- 'headkeep.ConvNeutral', WHERE WHAT IT READS IS OF BULK AT MOST 1048576: true; the input reads as it did. -/
def convNeutralUptoRow : OpenClaim := { program := "ytgeeomhceplemaa", sum := "751d99dceaf7e6fcafc71816fb661267c9e163ffda49e43033cb0cef927301e6", func := "headway/headkeep.ConvNeutral", spec := "convNeutral", apart := false, narrowed := true }
def ConvNeutralUptoSaid : Prop := convNeutralUptoRow.holds Try.pinned (OpenSpec.upto convNeutralSpec)

/-- 'headkeep.TraceLeast', WHERE WHAT IT READS IS OF BULK AT MOST 1048576: true; the input reads as it did. -/
def traceLeastUptoRow : OpenClaim := { program := "ytgeeomhceplemaa", sum := "751d99dceaf7e6fcafc71816fb661267c9e163ffda49e43033cb0cef927301e6", func := "headway/headkeep.TraceLeast", spec := "traceLeast", apart := false, narrowed := true }
def TraceLeastUptoSaid : Prop := traceLeastUptoRow.holds Try.pinned (OpenSpec.upto traceLeastSpec)

/-- 'headkeep.TraceConv', WHERE WHAT IT READS IS OF BULK AT MOST 1048576: true; the input reads as it did. -/
def traceConvUptoRow : OpenClaim := { program := "ytgeeomhceplemaa", sum := "751d99dceaf7e6fcafc71816fb661267c9e163ffda49e43033cb0cef927301e6", func := "headway/headkeep.TraceConv", spec := "traceConv", apart := false, narrowed := true }
def TraceConvUptoSaid : Prop := traceConvUptoRow.holds Try.pinned (OpenSpec.upto traceConvSpec)

/-- 'headkeep.ShaperTwice', WHERE WHAT IT READS IS OF BULK AT MOST 1048576: true; the input reads as it did. -/
def shaperTwiceUptoRow : OpenClaim := { program := "ytgeeomhceplemaa", sum := "751d99dceaf7e6fcafc71816fb661267c9e163ffda49e43033cb0cef927301e6", func := "headway/headkeep.ShaperTwice", spec := "shaperTwice", apart := false, narrowed := true }
def ShaperTwiceUptoSaid : Prop := shaperTwiceUptoRow.holds Try.pinned (OpenSpec.upto shaperTwiceSpec)

end Rows
end Go.Proofs.Ytgeeomhceplemaa
