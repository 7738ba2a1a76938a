/-
  No cell of these rows narrows 'for every input' (looked for: loops, veiled, ifaces, maps, wideKeys, modest, calm, conditions, laid).
  DERIVED. THE GIVEN ROWS OF THIS SEAT. 6 by the template 'for every input the law returns true; each argument reads behind the call as it read before'; 0 by the template 'total and deterministic' (their statements: YtidmncoakockkaaTotals.lean).
  GIVEN WITH THE SEED: the statements are not yours to turn. If you find one false, say at which input.
  Laid BY PROGRAM, IN A SANDBOX (cutbox-rows.mjs): the forced cells as the released guide's own fill.sh prints them over the translation 0abf375eb85aa400… (all of the seat's roots in one cut). By AI agents, Wed Nov 11 2026. No macro, syntax, notation, axiom, sorry.
-/
import Derived.Test.YtidmncoakockkaaChecked
import GoSem.Claim
import GoSem.ClaimJoined
import GoSem.ClaimMapViews
import Derived.JoinedTies
import Derived.KernelRfl
namespace Go.Proofs.Ytidmncoakockkaa
/- THE CELL 'sum', in the pinned program and in every row, IS THE sha256 OF THE DUMP (.gsa) THAT YtidmncoakockkaaProg.lean LOADS. Nothing in Lean hashes anything: it is a label: what it is worth is what the hold of that sum in a sandbox is worth. -/
noncomputable def Try.pinned : Pinned := { name := "ytidmncoakockkaa", sum := "0abf375eb85aa4007b8449c383e0c001ca8a37a7d7d5f34b1620b2a5696c8f2a", checked := Try.checked }
namespace Rows
def none {H : Type} : Left H := { results := [], args := [] }

/-- 'headtop.TopShare': WHATEVER THE INPUT: true; the input reads as it did. -/
def topShareSpec : ChangeSpec := { name := "topShare", fn := fun _ => fun
  | [d1, d2] => { results := [.lit (.bool true)], args := [d1, d2] }
  | _ => none }
def topShareRow : OpenClaim := { program := "ytidmncoakockkaa", sum := "0abf375eb85aa4007b8449c383e0c001ca8a37a7d7d5f34b1620b2a5696c8f2a", func := "headway/headtop.TopShare", spec := "topShare", apart := false }
def TopShareSaid : Prop := topShareRow.holds Try.pinned (OpenSpec.ofChange topShareSpec)

/-- ITS FALSE NEIGHBOUR: 'it returns false'. Refute it at one input. -/
def topShareWrong : ChangeSpec := { name := "topShare", fn := fun _ => fun
  | [d1, d2] => { results := [.lit (.bool false)], args := [d1, d2] }
  | _ => none }
def TopShareWrongFalsely : Prop := topShareRow.holds Try.pinned (OpenSpec.ofChange topShareWrong)

/-- 'headtop.TopShaped': WHATEVER THE INPUT: true; the input reads as it did. -/
def topShapedSpec : ChangeSpec := { name := "topShaped", fn := fun _ => fun
  | [d1, d2, d3] => { results := [.lit (.bool true)], args := [d1, d2, d3] }
  | _ => none }
def topShapedRow : OpenClaim := { program := "ytidmncoakockkaa", sum := "0abf375eb85aa4007b8449c383e0c001ca8a37a7d7d5f34b1620b2a5696c8f2a", func := "headway/headtop.TopShaped", spec := "topShaped", unfollowed := true, recurses := true, apart := false }
def TopShapedSaid : Prop := topShapedRow.holds Try.pinned (OpenSpec.ofChange topShapedSpec)

/-- ITS FALSE NEIGHBOUR: 'it returns false'. Refute it at one input. -/
def topShapedWrong : ChangeSpec := { name := "topShaped", fn := fun _ => fun
  | [d1, d2, d3] => { results := [.lit (.bool false)], args := [d1, d2, d3] }
  | _ => none }
def TopShapedWrongFalsely : Prop := topShapedRow.holds Try.pinned (OpenSpec.ofChange topShapedWrong)

/-- 'headtop.TopBucket': WHATEVER THE INPUT: true; the input reads as it did. -/
def topBucketSpec : ChangeSpec := { name := "topBucket", fn := fun _ => fun
  | [d1, d2, d3] => { results := [.lit (.bool true)], args := [d1, d2, d3] }
  | _ => none }
def topBucketRow : OpenClaim := { program := "ytidmncoakockkaa", sum := "0abf375eb85aa4007b8449c383e0c001ca8a37a7d7d5f34b1620b2a5696c8f2a", func := "headway/headtop.TopBucket", spec := "topBucket", unfollowed := true, recurses := true, apart := false }
def TopBucketSaid : Prop := topBucketRow.holds Try.pinned (OpenSpec.ofChange topBucketSpec)

/-- ITS FALSE NEIGHBOUR: 'it returns false'. Refute it at one input. -/
def topBucketWrong : ChangeSpec := { name := "topBucket", fn := fun _ => fun
  | [d1, d2, d3] => { results := [.lit (.bool false)], args := [d1, d2, d3] }
  | _ => none }
def TopBucketWrongFalsely : Prop := topBucketRow.holds Try.pinned (OpenSpec.ofChange topBucketWrong)

/-- 'headtop.TopWindow': WHATEVER THE INPUT: true; the input reads as it did. -/
def topWindowSpec : ChangeSpec := { name := "topWindow", fn := fun _ => fun
  | [d1, d2, d3] => { results := [.lit (.bool true)], args := [d1, d2, d3] }
  | _ => none }
def topWindowRow : OpenClaim := { program := "ytidmncoakockkaa", sum := "0abf375eb85aa4007b8449c383e0c001ca8a37a7d7d5f34b1620b2a5696c8f2a", func := "headway/headtop.TopWindow", spec := "topWindow", unfollowed := true, recurses := true, apart := false }
def TopWindowSaid : Prop := topWindowRow.holds Try.pinned (OpenSpec.ofChange topWindowSpec)

/-- ITS FALSE NEIGHBOUR: 'it returns false'. Refute it at one input. -/
def topWindowWrong : ChangeSpec := { name := "topWindow", fn := fun _ => fun
  | [d1, d2, d3] => { results := [.lit (.bool false)], args := [d1, d2, d3] }
  | _ => none }
def TopWindowWrongFalsely : Prop := topWindowRow.holds Try.pinned (OpenSpec.ofChange topWindowWrong)

/-- 'headkeep.PlanGrows': WHATEVER THE INPUT: true; the input reads as it did. -/
def planGrowsSpec : ChangeSpec := { name := "planGrows", fn := fun _ => fun
  | [d1, d2, d3, d4, d5, d6] => { results := [.lit (.bool true)], args := [d1, d2, d3, d4, d5, d6] }
  | _ => none }
def planGrowsRow : OpenClaim := { program := "ytidmncoakockkaa", sum := "0abf375eb85aa4007b8449c383e0c001ca8a37a7d7d5f34b1620b2a5696c8f2a", func := "headway/headkeep.PlanGrows", spec := "planGrows", apart := false }
def PlanGrowsSaid : Prop := planGrowsRow.holds Try.pinned (OpenSpec.ofChange planGrowsSpec)

/-- ITS FALSE NEIGHBOUR: 'it returns false'. Refute it at one input. -/
def planGrowsWrong : ChangeSpec := { name := "planGrows", fn := fun _ => fun
  | [d1, d2, d3, d4, d5, d6] => { results := [.lit (.bool false)], args := [d1, d2, d3, d4, d5, d6] }
  | _ => none }
def PlanGrowsWrongFalsely : Prop := planGrowsRow.holds Try.pinned (OpenSpec.ofChange planGrowsWrong)

/-- 'headkeep.ConvNeutral': WHATEVER THE INPUT: true; the input reads as it did. -/
def convNeutralSpec : ChangeSpec := { name := "convNeutral", fn := fun _ => fun
  | [d] => { results := [.lit (.bool true)], args := [d] }
  | _ => none }
def convNeutralRow : OpenClaim := { program := "ytidmncoakockkaa", sum := "0abf375eb85aa4007b8449c383e0c001ca8a37a7d7d5f34b1620b2a5696c8f2a", func := "headway/headkeep.ConvNeutral", spec := "convNeutral", apart := false }
def ConvNeutralSaid : Prop := convNeutralRow.holds Try.pinned (OpenSpec.ofChange convNeutralSpec)

/-- ITS FALSE NEIGHBOUR: 'it returns false'. Refute it at one input. -/
def convNeutralWrong : ChangeSpec := { name := "convNeutral", fn := fun _ => fun
  | [d] => { results := [.lit (.bool false)], args := [d] }
  | _ => none }
def ConvNeutralWrongFalsely : Prop := convNeutralRow.holds Try.pinned (OpenSpec.ofChange convNeutralWrong)

/- THE SECOND FORM. 'bulk': how many values and letters a reading holds, each counted each time it is reached (what is shared counts as often as it is met; a slice's spare places count too). A statement '..UptoSaid' is the law's where the arguments, and the package variables that the reading takes, are together of bulk at most 1048576: NARROWER than '..Said'. Prove '..Said' where nothing that the law and all that it calls make is longer than what came in: it says more and counts as full. Else prove '..UptoSaid'. A law counts once. -/
mutual
def uptoBulk {H : Type} : DataW H → Nat
  | .lit (.string bytes) => bytes.length + 1
  | .lit _ => 1
  | .nil => 1
  | .ptr d => uptoBulk d + 1
  | .slice elems spare => uptoBulkAll elems + uptoBulkAll spare + 1
  | .agg parts => uptoBulkAll parts + 1
  | .iface _ d => uptoBulk d + 1
  | .map entries => uptoBulkEntries entries + 1
  | .held _ => 1
def uptoBulkAll {H : Type} : List (DataW H) → Nat
  | [] => 0
  | d :: r => uptoBulk d + uptoBulkAll r
def uptoBulkEntries {H : Type} : List (Lit × DataW H) → Nat
  | [] => 0
  | x :: r => uptoBulkEntry x + uptoBulkEntries r
def uptoBulkEntry {H : Type} : Lit × DataW H → Nat
  | (.string bytes, d) => bytes.length + uptoBulk d + 1
  | (_, d) => uptoBulk d + 1
 end
def uptoSmall : (H : Type) → List (DataW H) → Bool := fun _ ds => decide (uptoBulkAll ds ≤ 1048576)
def OpenSpec.upto (s : _root_.Go.ChangeSpec) : _root_.Go.OpenSpec := { _root_.Go.OpenSpec.ofChange s with cond := some uptoSmall }

/-- 'headtop.TopShare', WHERE WHAT IT READS IS OF BULK AT MOST 1048576: true; the input reads as it did. -/
def topShareUptoRow : OpenClaim := { program := "ytidmncoakockkaa", sum := "0abf375eb85aa4007b8449c383e0c001ca8a37a7d7d5f34b1620b2a5696c8f2a", func := "headway/headtop.TopShare", spec := "topShare", apart := false, narrowed := true }
def TopShareUptoSaid : Prop := topShareUptoRow.holds Try.pinned (OpenSpec.upto topShareSpec)

/-- 'headtop.TopShaped', WHERE WHAT IT READS IS OF BULK AT MOST 1048576: true; the input reads as it did. -/
def topShapedUptoRow : OpenClaim := { program := "ytidmncoakockkaa", sum := "0abf375eb85aa4007b8449c383e0c001ca8a37a7d7d5f34b1620b2a5696c8f2a", func := "headway/headtop.TopShaped", spec := "topShaped", unfollowed := true, recurses := true, apart := false, narrowed := true }
def TopShapedUptoSaid : Prop := topShapedUptoRow.holds Try.pinned (OpenSpec.upto topShapedSpec)

/-- 'headtop.TopBucket', WHERE WHAT IT READS IS OF BULK AT MOST 1048576: true; the input reads as it did. -/
def topBucketUptoRow : OpenClaim := { program := "ytidmncoakockkaa", sum := "0abf375eb85aa4007b8449c383e0c001ca8a37a7d7d5f34b1620b2a5696c8f2a", func := "headway/headtop.TopBucket", spec := "topBucket", unfollowed := true, recurses := true, apart := false, narrowed := true }
def TopBucketUptoSaid : Prop := topBucketUptoRow.holds Try.pinned (OpenSpec.upto topBucketSpec)

/-- 'headtop.TopWindow', WHERE WHAT IT READS IS OF BULK AT MOST 1048576: true; the input reads as it did. -/
def topWindowUptoRow : OpenClaim := { program := "ytidmncoakockkaa", sum := "0abf375eb85aa4007b8449c383e0c001ca8a37a7d7d5f34b1620b2a5696c8f2a", func := "headway/headtop.TopWindow", spec := "topWindow", unfollowed := true, recurses := true, apart := false, narrowed := true }
def TopWindowUptoSaid : Prop := topWindowUptoRow.holds Try.pinned (OpenSpec.upto topWindowSpec)

/-- 'headkeep.PlanGrows', WHERE WHAT IT READS IS OF BULK AT MOST 1048576: true; the input reads as it did. -/
def planGrowsUptoRow : OpenClaim := { program := "ytidmncoakockkaa", sum := "0abf375eb85aa4007b8449c383e0c001ca8a37a7d7d5f34b1620b2a5696c8f2a", func := "headway/headkeep.PlanGrows", spec := "planGrows", apart := false, narrowed := true }
def PlanGrowsUptoSaid : Prop := planGrowsUptoRow.holds Try.pinned (OpenSpec.upto planGrowsSpec)

/-- 'headkeep.ConvNeutral', WHERE WHAT IT READS IS OF BULK AT MOST 1048576: true; the input reads as it did. -/
def convNeutralUptoRow : OpenClaim := { program := "ytidmncoakockkaa", sum := "0abf375eb85aa4007b8449c383e0c001ca8a37a7d7d5f34b1620b2a5696c8f2a", func := "headway/headkeep.ConvNeutral", spec := "convNeutral", apart := false, narrowed := true }
def ConvNeutralUptoSaid : Prop := convNeutralUptoRow.holds Try.pinned (OpenSpec.upto convNeutralSpec)

end Rows
end Go.Proofs.Ytidmncoakockkaa
