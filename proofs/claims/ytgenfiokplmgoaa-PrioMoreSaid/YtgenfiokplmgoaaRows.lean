/-
  No cell of these rows narrows 'for every input' (looked for: loops, veiled, ifaces, maps, wideKeys, modest, calm, conditions, laid).
  DERIVED. THE GIVEN ROWS OF THIS SEAT. 12 by the template 'for every input the law returns true; each argument reads behind the call as it read before'; 0 by the template 'total and deterministic' (their statements: YtgenfiokplmgoaaTotals.lean).
  GIVEN WITH THE SEED: the statements are not yours to turn. If you find one false, say at which input.
  Laid BY PROGRAM, IN A SANDBOX (cutbox-rows.mjs): the forced cells as the released guide's own fill.sh prints them over the translation 9e7270277e864852… (all of the seat's roots in one cut). By AI agents, Wed Nov 11 2026. No macro, syntax, notation, axiom, sorry.
-/
import Derived.Test.YtgenfiokplmgoaaChecked
import GoSem.Claim
import GoSem.ClaimJoined
import GoSem.ClaimMapViews
import Derived.JoinedTies
import Derived.KernelRfl
namespace Go.Proofs.Ytgenfiokplmgoaa
/- THE CELL 'sum', in the pinned program and in every row, IS THE sha256 OF THE DUMP (.gsa) THAT YtgenfiokplmgoaaProg.lean LOADS. Nothing in Lean hashes anything: it is a label: what it is worth is what the hold of that sum in a sandbox is worth. -/
noncomputable def Try.pinned : Pinned := { name := "ytgenfiokplmgoaa", sum := "9e7270277e864852b33406c940efe1e4eb6dd4d9a11e96c76184f92b2bf69dac", checked := Try.checked }
namespace Rows
def none {H : Type} : Left H := { results := [], args := [] }

/-- 'headkeep.ShaperTwo': WHATEVER THE INPUT: true; the input reads as it did. -/
def shaperTwoSpec : ChangeSpec := { name := "shaperTwo", fn := fun _ => fun
  | [d1, d2, d3] => { results := [.lit (.bool true)], args := [d1, d2, d3] }
  | _ => none }
def shaperTwoRow : OpenClaim := { program := "ytgenfiokplmgoaa", sum := "9e7270277e864852b33406c940efe1e4eb6dd4d9a11e96c76184f92b2bf69dac", func := "headway/headkeep.ShaperTwo", spec := "shaperTwo", unfollowed := true, recurses := true, apart := false }
def ShaperTwoSaid : Prop := shaperTwoRow.holds Try.pinned (OpenSpec.ofChange shaperTwoSpec)

/-- ITS FALSE NEIGHBOUR: 'it returns false'. Refute it at one input. -/
def shaperTwoWrong : ChangeSpec := { name := "shaperTwo", fn := fun _ => fun
  | [d1, d2, d3] => { results := [.lit (.bool false)], args := [d1, d2, d3] }
  | _ => none }
def ShaperTwoWrongFalsely : Prop := shaperTwoRow.holds Try.pinned (OpenSpec.ofChange shaperTwoWrong)

/-- 'headkeep.ShaperMost': WHATEVER THE INPUT: true; the input reads as it did. -/
def shaperMostSpec : ChangeSpec := { name := "shaperMost", fn := fun _ => fun
  | [d1, d2, d3] => { results := [.lit (.bool true)], args := [d1, d2, d3] }
  | _ => none }
def shaperMostRow : OpenClaim := { program := "ytgenfiokplmgoaa", sum := "9e7270277e864852b33406c940efe1e4eb6dd4d9a11e96c76184f92b2bf69dac", func := "headway/headkeep.ShaperMost", spec := "shaperMost", apart := false }
def ShaperMostSaid : Prop := shaperMostRow.holds Try.pinned (OpenSpec.ofChange shaperMostSpec)

/-- ITS FALSE NEIGHBOUR: 'it returns false'. Refute it at one input. -/
def shaperMostWrong : ChangeSpec := { name := "shaperMost", fn := fun _ => fun
  | [d1, d2, d3] => { results := [.lit (.bool false)], args := [d1, d2, d3] }
  | _ => none }
def ShaperMostWrongFalsely : Prop := shaperMostRow.holds Try.pinned (OpenSpec.ofChange shaperMostWrong)

/-- 'headkeep.BoundBack': WHATEVER THE INPUT: true; the input reads as it did. -/
def boundBackSpec : ChangeSpec := { name := "boundBack", fn := fun _ => fun
  | [d1, d2, d3, d4] => { results := [.lit (.bool true)], args := [d1, d2, d3, d4] }
  | _ => none }
def boundBackRow : OpenClaim := { program := "ytgenfiokplmgoaa", sum := "9e7270277e864852b33406c940efe1e4eb6dd4d9a11e96c76184f92b2bf69dac", func := "headway/headkeep.BoundBack", spec := "boundBack", unfollowed := true, recurses := true, apart := false }
def BoundBackSaid : Prop := boundBackRow.holds Try.pinned (OpenSpec.ofChange boundBackSpec)

/-- ITS FALSE NEIGHBOUR: 'it returns false'. Refute it at one input. -/
def boundBackWrong : ChangeSpec := { name := "boundBack", fn := fun _ => fun
  | [d1, d2, d3, d4] => { results := [.lit (.bool false)], args := [d1, d2, d3, d4] }
  | _ => none }
def BoundBackWrongFalsely : Prop := boundBackRow.holds Try.pinned (OpenSpec.ofChange boundBackWrong)

/-- 'headkeep.BoundDelay': WHATEVER THE INPUT: true; the input reads as it did. -/
def boundDelaySpec : ChangeSpec := { name := "boundDelay", fn := fun _ => fun
  | [d1, d2, d3, d4] => { results := [.lit (.bool true)], args := [d1, d2, d3, d4] }
  | _ => none }
def boundDelayRow : OpenClaim := { program := "ytgenfiokplmgoaa", sum := "9e7270277e864852b33406c940efe1e4eb6dd4d9a11e96c76184f92b2bf69dac", func := "headway/headkeep.BoundDelay", spec := "boundDelay", unfollowed := true, recurses := true, apart := false }
def BoundDelaySaid : Prop := boundDelayRow.holds Try.pinned (OpenSpec.ofChange boundDelaySpec)

/-- ITS FALSE NEIGHBOUR: 'it returns false'. Refute it at one input. -/
def boundDelayWrong : ChangeSpec := { name := "boundDelay", fn := fun _ => fun
  | [d1, d2, d3, d4] => { results := [.lit (.bool false)], args := [d1, d2, d3, d4] }
  | _ => none }
def BoundDelayWrongFalsely : Prop := boundDelayRow.holds Try.pinned (OpenSpec.ofChange boundDelayWrong)

/-- 'headkeep.BoundOut': WHATEVER THE INPUT: true; the input reads as it did. -/
def boundOutSpec : ChangeSpec := { name := "boundOut", fn := fun _ => fun
  | [d1, d2, d3, d4] => { results := [.lit (.bool true)], args := [d1, d2, d3, d4] }
  | _ => none }
def boundOutRow : OpenClaim := { program := "ytgenfiokplmgoaa", sum := "9e7270277e864852b33406c940efe1e4eb6dd4d9a11e96c76184f92b2bf69dac", func := "headway/headkeep.BoundOut", spec := "boundOut", unfollowed := true, recurses := true, apart := false }
def BoundOutSaid : Prop := boundOutRow.holds Try.pinned (OpenSpec.ofChange boundOutSpec)

/-- ITS FALSE NEIGHBOUR: 'it returns false'. Refute it at one input. -/
def boundOutWrong : ChangeSpec := { name := "boundOut", fn := fun _ => fun
  | [d1, d2, d3, d4] => { results := [.lit (.bool false)], args := [d1, d2, d3, d4] }
  | _ => none }
def BoundOutWrongFalsely : Prop := boundOutRow.holds Try.pinned (OpenSpec.ofChange boundOutWrong)

/-- 'headkeep.LineBusy': WHATEVER THE INPUT: true; the input reads as it did. -/
def lineBusySpec : ChangeSpec := { name := "lineBusy", fn := fun _ => fun
  | [d1, d2, d3, d4] => { results := [.lit (.bool true)], args := [d1, d2, d3, d4] }
  | _ => none }
def lineBusyRow : OpenClaim := { program := "ytgenfiokplmgoaa", sum := "9e7270277e864852b33406c940efe1e4eb6dd4d9a11e96c76184f92b2bf69dac", func := "headway/headkeep.LineBusy", spec := "lineBusy", apart := false }
def LineBusySaid : Prop := lineBusyRow.holds Try.pinned (OpenSpec.ofChange lineBusySpec)

/-- ITS FALSE NEIGHBOUR: 'it returns false'. Refute it at one input. -/
def lineBusyWrong : ChangeSpec := { name := "lineBusy", fn := fun _ => fun
  | [d1, d2, d3, d4] => { results := [.lit (.bool false)], args := [d1, d2, d3, d4] }
  | _ => none }
def LineBusyWrongFalsely : Prop := lineBusyRow.holds Try.pinned (OpenSpec.ofChange lineBusyWrong)

/-- 'headkeep.LineConv': WHATEVER THE INPUT: true; the input reads as it did. -/
def lineConvSpec : ChangeSpec := { name := "lineConv", fn := fun _ => fun
  | [d1, d2] => { results := [.lit (.bool true)], args := [d1, d2] }
  | _ => none }
def lineConvRow : OpenClaim := { program := "ytgenfiokplmgoaa", sum := "9e7270277e864852b33406c940efe1e4eb6dd4d9a11e96c76184f92b2bf69dac", func := "headway/headkeep.LineConv", spec := "lineConv", unfollowed := true, recurses := true, apart := false }
def LineConvSaid : Prop := lineConvRow.holds Try.pinned (OpenSpec.ofChange lineConvSpec)

/-- ITS FALSE NEIGHBOUR: 'it returns false'. Refute it at one input. -/
def lineConvWrong : ChangeSpec := { name := "lineConv", fn := fun _ => fun
  | [d1, d2] => { results := [.lit (.bool false)], args := [d1, d2] }
  | _ => none }
def LineConvWrongFalsely : Prop := lineConvRow.holds Try.pinned (OpenSpec.ofChange lineConvWrong)

/-- 'headkeep.PrioMore': WHATEVER THE INPUT: true; the input reads as it did. -/
def prioMoreSpec : ChangeSpec := { name := "prioMore", fn := fun _ => fun
  | [d1, d2, d3, d4, d5] => { results := [.lit (.bool true)], args := [d1, d2, d3, d4, d5] }
  | _ => none }
def prioMoreRow : OpenClaim := { program := "ytgenfiokplmgoaa", sum := "9e7270277e864852b33406c940efe1e4eb6dd4d9a11e96c76184f92b2bf69dac", func := "headway/headkeep.PrioMore", spec := "prioMore", apart := false }
def PrioMoreSaid : Prop := prioMoreRow.holds Try.pinned (OpenSpec.ofChange prioMoreSpec)

/-- ITS FALSE NEIGHBOUR: 'it returns false'. Refute it at one input. -/
def prioMoreWrong : ChangeSpec := { name := "prioMore", fn := fun _ => fun
  | [d1, d2, d3, d4, d5] => { results := [.lit (.bool false)], args := [d1, d2, d3, d4, d5] }
  | _ => none }
def PrioMoreWrongFalsely : Prop := prioMoreRow.holds Try.pinned (OpenSpec.ofChange prioMoreWrong)

/-- 'headkeep.PrioLeaves': WHATEVER THE INPUT: true; the input reads as it did. -/
def prioLeavesSpec : ChangeSpec := { name := "prioLeaves", fn := fun _ => fun
  | [d1, d2, d3, d4] => { results := [.lit (.bool true)], args := [d1, d2, d3, d4] }
  | _ => none }
def prioLeavesRow : OpenClaim := { program := "ytgenfiokplmgoaa", sum := "9e7270277e864852b33406c940efe1e4eb6dd4d9a11e96c76184f92b2bf69dac", func := "headway/headkeep.PrioLeaves", spec := "prioLeaves", unfollowed := true, recurses := true, apart := false }
def PrioLeavesSaid : Prop := prioLeavesRow.holds Try.pinned (OpenSpec.ofChange prioLeavesSpec)

/-- ITS FALSE NEIGHBOUR: 'it returns false'. Refute it at one input. -/
def prioLeavesWrong : ChangeSpec := { name := "prioLeaves", fn := fun _ => fun
  | [d1, d2, d3, d4] => { results := [.lit (.bool false)], args := [d1, d2, d3, d4] }
  | _ => none }
def PrioLeavesWrongFalsely : Prop := prioLeavesRow.holds Try.pinned (OpenSpec.ofChange prioLeavesWrong)

/-- 'headtop.TopShaped': WHATEVER THE INPUT: true; the input reads as it did. -/
def topShapedSpec : ChangeSpec := { name := "topShaped", fn := fun _ => fun
  | [d1, d2, d3] => { results := [.lit (.bool true)], args := [d1, d2, d3] }
  | _ => none }
def topShapedRow : OpenClaim := { program := "ytgenfiokplmgoaa", sum := "9e7270277e864852b33406c940efe1e4eb6dd4d9a11e96c76184f92b2bf69dac", func := "headway/headtop.TopShaped", spec := "topShaped", unfollowed := true, recurses := true, apart := false }
def TopShapedSaid : Prop := topShapedRow.holds Try.pinned (OpenSpec.ofChange topShapedSpec)

/-- ITS FALSE NEIGHBOUR: 'it returns false'. Refute it at one input. -/
def topShapedWrong : ChangeSpec := { name := "topShaped", fn := fun _ => fun
  | [d1, d2, d3] => { results := [.lit (.bool false)], args := [d1, d2, d3] }
  | _ => none }
def TopShapedWrongFalsely : Prop := topShapedRow.holds Try.pinned (OpenSpec.ofChange topShapedWrong)

/-- 'headtop.TopBucket': WHATEVER THE INPUT: true; the input reads as it did. -/
def topBucketSpec : ChangeSpec := { name := "topBucket", fn := fun _ => fun
  | [d1, d2, d3] => { results := [.lit (.bool true)], args := [d1, d2, d3] }
  | _ => none }
def topBucketRow : OpenClaim := { program := "ytgenfiokplmgoaa", sum := "9e7270277e864852b33406c940efe1e4eb6dd4d9a11e96c76184f92b2bf69dac", func := "headway/headtop.TopBucket", spec := "topBucket", unfollowed := true, recurses := true, apart := false }
def TopBucketSaid : Prop := topBucketRow.holds Try.pinned (OpenSpec.ofChange topBucketSpec)

/-- ITS FALSE NEIGHBOUR: 'it returns false'. Refute it at one input. -/
def topBucketWrong : ChangeSpec := { name := "topBucket", fn := fun _ => fun
  | [d1, d2, d3] => { results := [.lit (.bool false)], args := [d1, d2, d3] }
  | _ => none }
def TopBucketWrongFalsely : Prop := topBucketRow.holds Try.pinned (OpenSpec.ofChange topBucketWrong)

/-- 'headtop.TopShare': WHATEVER THE INPUT: true; the input reads as it did. -/
def topShareSpec : ChangeSpec := { name := "topShare", fn := fun _ => fun
  | [d1, d2] => { results := [.lit (.bool true)], args := [d1, d2] }
  | _ => none }
def topShareRow : OpenClaim := { program := "ytgenfiokplmgoaa", sum := "9e7270277e864852b33406c940efe1e4eb6dd4d9a11e96c76184f92b2bf69dac", func := "headway/headtop.TopShare", spec := "topShare", apart := false }
def TopShareSaid : Prop := topShareRow.holds Try.pinned (OpenSpec.ofChange topShareSpec)

/-- ITS FALSE NEIGHBOUR: 'it returns false'. Refute it at one input. -/
def topShareWrong : ChangeSpec := { name := "topShare", fn := fun _ => fun
  | [d1, d2] => { results := [.lit (.bool false)], args := [d1, d2] }
  | _ => none }
def TopShareWrongFalsely : Prop := topShareRow.holds Try.pinned (OpenSpec.ofChange topShareWrong)

/- THE SECOND FORM. 'bulk': how many values and letters a reading holds, each counted each time it is reached (what is shared counts as often as it is met; a slice's spare places count too). A statement '..UptoSaid' is the law's where the arguments, and the package variables that the reading takes, are together of bulk at most 1048576: NARROWER than '..Said'. Prove '..Said' where nothing that the law and all that it calls make is longer than what came in: it says more and counts as full. Else prove '..UptoSaid'. A law counts once. -/
mutual
def uptoBulk {H : Type} : DataW H → Nat
  | .lit (.string bytes) => bytes.length + 1
  | .lit _ => 1
  | .nil => 1
  | .ptr d => uptoBulk d + 1
  | .slice elems spare => uptoBulkAll elems + uptoBulkAll spare + 1
  | .agg parts => uptoBulkAll parts + 1
  | .iface _ d => uptoBulk d + 1
  | .map entries => uptoBulkEntries entries + 1
  | .held _ => 1
def uptoBulkAll {H : Type} : List (DataW H) → Nat
  | [] => 0
  | d :: r => uptoBulk d + uptoBulkAll r
def uptoBulkEntries {H : Type} : List (Lit × DataW H) → Nat
  | [] => 0
  | x :: r => uptoBulkEntry x + uptoBulkEntries r
def uptoBulkEntry {H : Type} : Lit × DataW H → Nat
  | (.string bytes, d) => bytes.length + uptoBulk d + 1
  | (_, d) => uptoBulk d + 1
 end
def uptoSmall : (H : Type) → List (DataW H) → Bool := fun _ ds => decide (uptoBulkAll ds ≤ 1048576)
def OpenSpec.upto (s : _root_.Go.ChangeSpec) : _root_.Go.OpenSpec := { _root_.Go.OpenSpec.ofChange s with cond := some uptoSmall }

/-- 'headkeep.ShaperTwo', WHERE WHAT IT READS IS OF BULK AT MOST 1048576: true; the input reads as it did. -/
def shaperTwoUptoRow : OpenClaim := { program := "ytgenfiokplmgoaa", sum := "9e7270277e864852b33406c940efe1e4eb6dd4d9a11e96c76184f92b2bf69dac", func := "headway/headkeep.ShaperTwo", spec := "shaperTwo", unfollowed := true, recurses := true, apart := false, narrowed := true }
def ShaperTwoUptoSaid : Prop := shaperTwoUptoRow.holds Try.pinned (OpenSpec.upto shaperTwoSpec)

/-- 'headkeep.ShaperMost', WHERE WHAT IT READS IS OF BULK AT MOST 1048576: true; the input reads as it did. -/
def shaperMostUptoRow : OpenClaim := { program := "ytgenfiokplmgoaa", sum := "9e7270277e864852b33406c940efe1e4eb6dd4d9a11e96c76184f92b2bf69dac", func := "headway/headkeep.ShaperMost", spec := "shaperMost", apart := false, narrowed := true }
def ShaperMostUptoSaid : Prop := shaperMostUptoRow.holds Try.pinned (OpenSpec.upto shaperMostSpec)

/-- 'headkeep.BoundBack', WHERE WHAT IT READS IS OF BULK AT MOST 1048576: true; the input reads as it did. -/
def boundBackUptoRow : OpenClaim := { program := "ytgenfiokplmgoaa", sum := "9e7270277e864852b33406c940efe1e4eb6dd4d9a11e96c76184f92b2bf69dac", func := "headway/headkeep.BoundBack", spec := "boundBack", unfollowed := true, recurses := true, apart := false, narrowed := true }
def BoundBackUptoSaid : Prop := boundBackUptoRow.holds Try.pinned (OpenSpec.upto boundBackSpec)

/-- 'headkeep.BoundDelay', WHERE WHAT IT READS IS OF BULK AT MOST 1048576: true; the input reads as it did. -/
def boundDelayUptoRow : OpenClaim := { program := "ytgenfiokplmgoaa", sum := "9e7270277e864852b33406c940efe1e4eb6dd4d9a11e96c76184f92b2bf69dac", func := "headway/headkeep.BoundDelay", spec := "boundDelay", unfollowed := true, recurses := true, apart := false, narrowed := true }
def BoundDelayUptoSaid : Prop := boundDelayUptoRow.holds Try.pinned (OpenSpec.upto boundDelaySpec)

/-- 'headkeep.BoundOut', WHERE WHAT IT READS IS OF BULK AT MOST 1048576: true; the input reads as it did. -/
def boundOutUptoRow : OpenClaim := { program := "ytgenfiokplmgoaa", sum := "9e7270277e864852b33406c940efe1e4eb6dd4d9a11e96c76184f92b2bf69dac", func := "headway/headkeep.BoundOut", spec := "boundOut", unfollowed := true, recurses := true, apart := false, narrowed := true }
def BoundOutUptoSaid : Prop := boundOutUptoRow.holds Try.pinned (OpenSpec.upto boundOutSpec)

/-- 'headkeep.LineBusy', WHERE WHAT IT READS IS OF BULK AT MOST 1048576: true; the input reads as it did. -/
def lineBusyUptoRow : OpenClaim := { program := "ytgenfiokplmgoaa", sum := "9e7270277e864852b33406c940efe1e4eb6dd4d9a11e96c76184f92b2bf69dac", func := "headway/headkeep.LineBusy", spec := "lineBusy", apart := false, narrowed := true }
def LineBusyUptoSaid : Prop := lineBusyUptoRow.holds Try.pinned (OpenSpec.upto lineBusySpec)

/-- 'headkeep.LineConv', WHERE WHAT IT READS IS OF BULK AT MOST 1048576: true; the input reads as it did. -/
def lineConvUptoRow : OpenClaim := { program := "ytgenfiokplmgoaa", sum := "9e7270277e864852b33406c940efe1e4eb6dd4d9a11e96c76184f92b2bf69dac", func := "headway/headkeep.LineConv", spec := "lineConv", unfollowed := true, recurses := true, apart := false, narrowed := true }
def LineConvUptoSaid : Prop := lineConvUptoRow.holds Try.pinned (OpenSpec.upto lineConvSpec)

/-- 'headkeep.PrioMore', WHERE WHAT IT READS IS OF BULK AT MOST 1048576: true; the input reads as it did. -/
def prioMoreUptoRow : OpenClaim := { program := "ytgenfiokplmgoaa", sum := "9e7270277e864852b33406c940efe1e4eb6dd4d9a11e96c76184f92b2bf69dac", func := "headway/headkeep.PrioMore", spec := "prioMore", apart := false, narrowed := true }
def PrioMoreUptoSaid : Prop := prioMoreUptoRow.holds Try.pinned (OpenSpec.upto prioMoreSpec)

/-- 'headkeep.PrioLeaves', WHERE WHAT IT READS IS OF BULK AT MOST 1048576: true; the input reads as it did. -/
def prioLeavesUptoRow : OpenClaim := { program := "ytgenfiokplmgoaa", sum := "9e7270277e864852b33406c940efe1e4eb6dd4d9a11e96c76184f92b2bf69dac", func := "headway/headkeep.PrioLeaves", spec := "prioLeaves", unfollowed := true, recurses := true, apart := false, narrowed := true }
def PrioLeavesUptoSaid : Prop := prioLeavesUptoRow.holds Try.pinned (OpenSpec.upto prioLeavesSpec)

/-- 'headtop.TopShaped', WHERE WHAT IT READS IS OF BULK AT MOST 1048576: true; the input reads as it did. -/
def topShapedUptoRow : OpenClaim := { program := "ytgenfiokplmgoaa", sum := "9e7270277e864852b33406c940efe1e4eb6dd4d9a11e96c76184f92b2bf69dac", func := "headway/headtop.TopShaped", spec := "topShaped", unfollowed := true, recurses := true, apart := false, narrowed := true }
def TopShapedUptoSaid : Prop := topShapedUptoRow.holds Try.pinned (OpenSpec.upto topShapedSpec)

/-- 'headtop.TopBucket', WHERE WHAT IT READS IS OF BULK AT MOST 1048576: true; the input reads as it did. -/
def topBucketUptoRow : OpenClaim := { program := "ytgenfiokplmgoaa", sum := "9e7270277e864852b33406c940efe1e4eb6dd4d9a11e96c76184f92b2bf69dac", func := "headway/headtop.TopBucket", spec := "topBucket", unfollowed := true, recurses := true, apart := false, narrowed := true }
def TopBucketUptoSaid : Prop := topBucketUptoRow.holds Try.pinned (OpenSpec.upto topBucketSpec)

/-- 'headtop.TopShare', WHERE WHAT IT READS IS OF BULK AT MOST 1048576: true; the input reads as it did. -/
def topShareUptoRow : OpenClaim := { program := "ytgenfiokplmgoaa", sum := "9e7270277e864852b33406c940efe1e4eb6dd4d9a11e96c76184f92b2bf69dac", func := "headway/headtop.TopShare", spec := "topShare", apart := false, narrowed := true }
def TopShareUptoSaid : Prop := topShareUptoRow.holds Try.pinned (OpenSpec.upto topShareSpec)

end Rows
end Go.Proofs.Ytgenfiokplmgoaa
