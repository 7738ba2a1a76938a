/-
  No cell of these rows narrows 'for every input' (looked for: loops, veiled, ifaces, maps, wideKeys, modest, calm, conditions, laid).
  DERIVED. THE GIVEN ROWS OF THIS SEAT. 12 by the template 'for every input the law returns true; each argument reads behind the call as it read before'; 0 by the template 'total and deterministic' (their statements: YtopldjklmjkcmaaTotals.lean).
  GIVEN WITH THE SEED: the statements are not yours to turn. If you find one false, say at which input.
  Laid BY PROGRAM, IN A SANDBOX (cutbox-rows.mjs): the forced cells as the released guide's own fill.sh prints them over the translation f7cd2d84b9561dca… (all of the seat's roots in one cut). By AI agents, Wed Nov 11 2026. No macro, syntax, notation, axiom, sorry.
-/
import Derived.Test.YtopldjklmjkcmaaChecked
import GoSem.Claim
import GoSem.ClaimJoined
import GoSem.ClaimMapViews
import Derived.JoinedTies
import Derived.KernelRfl
namespace Go.Proofs.Ytopldjklmjkcmaa
/- THE CELL 'sum', in the pinned program and in every row, IS THE sha256 OF THE DUMP (.gsa) THAT YtopldjklmjkcmaaProg.lean LOADS. Nothing in Lean hashes anything: it is a label: what it is worth is what the hold of that sum in a sandbox is worth. -/
noncomputable def Try.pinned : Pinned := { name := "ytopldjklmjkcmaa", sum := "f7cd2d84b9561dcaf928fc1d7399c6cc009b566802c5c148f9425cc125841678", checked := Try.checked }
namespace Rows
def none {H : Type} : Left H := { results := [], args := [] }

/-- 'headkeep.WindowGrows': WHATEVER THE INPUT: true; the input reads as it did. -/
def windowGrowsSpec : ChangeSpec := { name := "windowGrows", fn := fun _ => fun
  | [d1, d2, d3, d4, d5, d6] => { results := [.lit (.bool true)], args := [d1, d2, d3, d4, d5, d6] }
  | _ => none }
def windowGrowsRow : OpenClaim := { program := "ytopldjklmjkcmaa", sum := "f7cd2d84b9561dcaf928fc1d7399c6cc009b566802c5c148f9425cc125841678", func := "headway/headkeep.WindowGrows", spec := "windowGrows", apart := false }
def WindowGrowsSaid : Prop := windowGrowsRow.holds Try.pinned (OpenSpec.ofChange windowGrowsSpec)

/-- ITS FALSE NEIGHBOUR: 'it returns false'. Refute it at one input. -/
def windowGrowsWrong : ChangeSpec := { name := "windowGrows", fn := fun _ => fun
  | [d1, d2, d3, d4, d5, d6] => { results := [.lit (.bool false)], args := [d1, d2, d3, d4, d5, d6] }
  | _ => none }
def WindowGrowsWrongFalsely : Prop := windowGrowsRow.holds Try.pinned (OpenSpec.ofChange windowGrowsWrong)

/-- 'headkeep.WindowFull': WHATEVER THE INPUT: true; the input reads as it did. -/
def windowFullSpec : ChangeSpec := { name := "windowFull", fn := fun _ => fun
  | [d1, d2, d3] => { results := [.lit (.bool true)], args := [d1, d2, d3] }
  | _ => none }
def windowFullRow : OpenClaim := { program := "ytopldjklmjkcmaa", sum := "f7cd2d84b9561dcaf928fc1d7399c6cc009b566802c5c148f9425cc125841678", func := "headway/headkeep.WindowFull", spec := "windowFull", apart := false }
def WindowFullSaid : Prop := windowFullRow.holds Try.pinned (OpenSpec.ofChange windowFullSpec)

/-- ITS FALSE NEIGHBOUR: 'it returns false'. Refute it at one input. -/
def windowFullWrong : ChangeSpec := { name := "windowFull", fn := fun _ => fun
  | [d1, d2, d3] => { results := [.lit (.bool false)], args := [d1, d2, d3] }
  | _ => none }
def WindowFullWrongFalsely : Prop := windowFullRow.holds Try.pinned (OpenSpec.ofChange windowFullWrong)

/-- 'headkeep.WindowOne': WHATEVER THE INPUT: true; the input reads as it did. -/
def windowOneSpec : ChangeSpec := { name := "windowOne", fn := fun _ => fun
  | [d1, d2, d3] => { results := [.lit (.bool true)], args := [d1, d2, d3] }
  | _ => none }
def windowOneRow : OpenClaim := { program := "ytopldjklmjkcmaa", sum := "f7cd2d84b9561dcaf928fc1d7399c6cc009b566802c5c148f9425cc125841678", func := "headway/headkeep.WindowOne", spec := "windowOne", apart := false }
def WindowOneSaid : Prop := windowOneRow.holds Try.pinned (OpenSpec.ofChange windowOneSpec)

/-- ITS FALSE NEIGHBOUR: 'it returns false'. Refute it at one input. -/
def windowOneWrong : ChangeSpec := { name := "windowOne", fn := fun _ => fun
  | [d1, d2, d3] => { results := [.lit (.bool false)], args := [d1, d2, d3] }
  | _ => none }
def WindowOneWrongFalsely : Prop := windowOneRow.holds Try.pinned (OpenSpec.ofChange windowOneWrong)

/-- 'headkeep.WindowForm': WHATEVER THE INPUT: true; the input reads as it did. -/
def windowFormSpec : ChangeSpec := { name := "windowForm", fn := fun _ => fun
  | [d1, d2, d3] => { results := [.lit (.bool true)], args := [d1, d2, d3] }
  | _ => none }
def windowFormRow : OpenClaim := { program := "ytopldjklmjkcmaa", sum := "f7cd2d84b9561dcaf928fc1d7399c6cc009b566802c5c148f9425cc125841678", func := "headway/headkeep.WindowForm", spec := "windowForm", apart := false }
def WindowFormSaid : Prop := windowFormRow.holds Try.pinned (OpenSpec.ofChange windowFormSpec)

/-- ITS FALSE NEIGHBOUR: 'it returns false'. Refute it at one input. -/
def windowFormWrong : ChangeSpec := { name := "windowForm", fn := fun _ => fun
  | [d1, d2, d3] => { results := [.lit (.bool false)], args := [d1, d2, d3] }
  | _ => none }
def WindowFormWrongFalsely : Prop := windowFormRow.holds Try.pinned (OpenSpec.ofChange windowFormWrong)

/-- 'headkeep.RetryWaits': WHATEVER THE INPUT: true; the input reads as it did. -/
def retryWaitsSpec : ChangeSpec := { name := "retryWaits", fn := fun _ => fun
  | [d1, d2, d3] => { results := [.lit (.bool true)], args := [d1, d2, d3] }
  | _ => none }
def retryWaitsRow : OpenClaim := { program := "ytopldjklmjkcmaa", sum := "f7cd2d84b9561dcaf928fc1d7399c6cc009b566802c5c148f9425cc125841678", func := "headway/headkeep.RetryWaits", spec := "retryWaits", apart := false }
def RetryWaitsSaid : Prop := retryWaitsRow.holds Try.pinned (OpenSpec.ofChange retryWaitsSpec)

/-- ITS FALSE NEIGHBOUR: 'it returns false'. Refute it at one input. -/
def retryWaitsWrong : ChangeSpec := { name := "retryWaits", fn := fun _ => fun
  | [d1, d2, d3] => { results := [.lit (.bool false)], args := [d1, d2, d3] }
  | _ => none }
def RetryWaitsWrongFalsely : Prop := retryWaitsRow.holds Try.pinned (OpenSpec.ofChange retryWaitsWrong)

/-- 'headkeep.RetryLater': WHATEVER THE INPUT: true; the input reads as it did. -/
def retryLaterSpec : ChangeSpec := { name := "retryLater", fn := fun _ => fun
  | [d1, d2, d3, d4] => { results := [.lit (.bool true)], args := [d1, d2, d3, d4] }
  | _ => none }
def retryLaterRow : OpenClaim := { program := "ytopldjklmjkcmaa", sum := "f7cd2d84b9561dcaf928fc1d7399c6cc009b566802c5c148f9425cc125841678", func := "headway/headkeep.RetryLater", spec := "retryLater", apart := false }
def RetryLaterSaid : Prop := retryLaterRow.holds Try.pinned (OpenSpec.ofChange retryLaterSpec)

/-- ITS FALSE NEIGHBOUR: 'it returns false'. Refute it at one input. -/
def retryLaterWrong : ChangeSpec := { name := "retryLater", fn := fun _ => fun
  | [d1, d2, d3, d4] => { results := [.lit (.bool false)], args := [d1, d2, d3, d4] }
  | _ => none }
def RetryLaterWrongFalsely : Prop := retryLaterRow.holds Try.pinned (OpenSpec.ofChange retryLaterWrong)

/-- 'headkeep.ResumeWhole': WHATEVER THE INPUT: true; the input reads as it did. -/
def resumeWholeSpec : ChangeSpec := { name := "resumeWhole", fn := fun _ => fun
  | [d1, d2, d3, d4] => { results := [.lit (.bool true)], args := [d1, d2, d3, d4] }
  | _ => none }
def resumeWholeRow : OpenClaim := { program := "ytopldjklmjkcmaa", sum := "f7cd2d84b9561dcaf928fc1d7399c6cc009b566802c5c148f9425cc125841678", func := "headway/headkeep.ResumeWhole", spec := "resumeWhole", apart := false }
def ResumeWholeSaid : Prop := resumeWholeRow.holds Try.pinned (OpenSpec.ofChange resumeWholeSpec)

/-- ITS FALSE NEIGHBOUR: 'it returns false'. Refute it at one input. -/
def resumeWholeWrong : ChangeSpec := { name := "resumeWhole", fn := fun _ => fun
  | [d1, d2, d3, d4] => { results := [.lit (.bool false)], args := [d1, d2, d3, d4] }
  | _ => none }
def ResumeWholeWrongFalsely : Prop := resumeWholeRow.holds Try.pinned (OpenSpec.ofChange resumeWholeWrong)

/-- 'headkeep.ResumeBy': WHATEVER THE INPUT: true; the input reads as it did. -/
def resumeBySpec : ChangeSpec := { name := "resumeBy", fn := fun _ => fun
  | [d1, d2, d3, d4] => { results := [.lit (.bool true)], args := [d1, d2, d3, d4] }
  | _ => none }
def resumeByRow : OpenClaim := { program := "ytopldjklmjkcmaa", sum := "f7cd2d84b9561dcaf928fc1d7399c6cc009b566802c5c148f9425cc125841678", func := "headway/headkeep.ResumeBy", spec := "resumeBy", apart := false }
def ResumeBySaid : Prop := resumeByRow.holds Try.pinned (OpenSpec.ofChange resumeBySpec)

/-- ITS FALSE NEIGHBOUR: 'it returns false'. Refute it at one input. -/
def resumeByWrong : ChangeSpec := { name := "resumeBy", fn := fun _ => fun
  | [d1, d2, d3, d4] => { results := [.lit (.bool false)], args := [d1, d2, d3, d4] }
  | _ => none }
def ResumeByWrongFalsely : Prop := resumeByRow.holds Try.pinned (OpenSpec.ofChange resumeByWrong)

/-- 'headkeep.ShareLast': WHATEVER THE INPUT: true; the input reads as it did. -/
def shareLastSpec : ChangeSpec := { name := "shareLast", fn := fun _ => fun
  | [d1, d2] => { results := [.lit (.bool true)], args := [d1, d2] }
  | _ => none }
def shareLastRow : OpenClaim := { program := "ytopldjklmjkcmaa", sum := "f7cd2d84b9561dcaf928fc1d7399c6cc009b566802c5c148f9425cc125841678", func := "headway/headkeep.ShareLast", spec := "shareLast", apart := false }
def ShareLastSaid : Prop := shareLastRow.holds Try.pinned (OpenSpec.ofChange shareLastSpec)

/-- ITS FALSE NEIGHBOUR: 'it returns false'. Refute it at one input. -/
def shareLastWrong : ChangeSpec := { name := "shareLast", fn := fun _ => fun
  | [d1, d2] => { results := [.lit (.bool false)], args := [d1, d2] }
  | _ => none }
def ShareLastWrongFalsely : Prop := shareLastRow.holds Try.pinned (OpenSpec.ofChange shareLastWrong)

/-- 'headkeep.ShareEach': WHATEVER THE INPUT: true; the input reads as it did. -/
def shareEachSpec : ChangeSpec := { name := "shareEach", fn := fun _ => fun
  | [d1, d2, d3] => { results := [.lit (.bool true)], args := [d1, d2, d3] }
  | _ => none }
def shareEachRow : OpenClaim := { program := "ytopldjklmjkcmaa", sum := "f7cd2d84b9561dcaf928fc1d7399c6cc009b566802c5c148f9425cc125841678", func := "headway/headkeep.ShareEach", spec := "shareEach", apart := false }
def ShareEachSaid : Prop := shareEachRow.holds Try.pinned (OpenSpec.ofChange shareEachSpec)

/-- ITS FALSE NEIGHBOUR: 'it returns false'. Refute it at one input. -/
def shareEachWrong : ChangeSpec := { name := "shareEach", fn := fun _ => fun
  | [d1, d2, d3] => { results := [.lit (.bool false)], args := [d1, d2, d3] }
  | _ => none }
def ShareEachWrongFalsely : Prop := shareEachRow.holds Try.pinned (OpenSpec.ofChange shareEachWrong)

/-- 'headkeep.ShareMore': WHATEVER THE INPUT: true; the input reads as it did. -/
def shareMoreSpec : ChangeSpec := { name := "shareMore", fn := fun _ => fun
  | [d1, d2, d3, d4, d5] => { results := [.lit (.bool true)], args := [d1, d2, d3, d4, d5] }
  | _ => none }
def shareMoreRow : OpenClaim := { program := "ytopldjklmjkcmaa", sum := "f7cd2d84b9561dcaf928fc1d7399c6cc009b566802c5c148f9425cc125841678", func := "headway/headkeep.ShareMore", spec := "shareMore", apart := false }
def ShareMoreSaid : Prop := shareMoreRow.holds Try.pinned (OpenSpec.ofChange shareMoreSpec)

/-- ITS FALSE NEIGHBOUR: 'it returns false'. Refute it at one input. -/
def shareMoreWrong : ChangeSpec := { name := "shareMore", fn := fun _ => fun
  | [d1, d2, d3, d4, d5] => { results := [.lit (.bool false)], args := [d1, d2, d3, d4, d5] }
  | _ => none }
def ShareMoreWrongFalsely : Prop := shareMoreRow.holds Try.pinned (OpenSpec.ofChange shareMoreWrong)

/-- 'headkeep.BucketParts': WHATEVER THE INPUT: true; the input reads as it did. -/
def bucketPartsSpec : ChangeSpec := { name := "bucketParts", fn := fun _ => fun
  | [d1, d2, d3] => { results := [.lit (.bool true)], args := [d1, d2, d3] }
  | _ => none }
def bucketPartsRow : OpenClaim := { program := "ytopldjklmjkcmaa", sum := "f7cd2d84b9561dcaf928fc1d7399c6cc009b566802c5c148f9425cc125841678", func := "headway/headkeep.BucketParts", spec := "bucketParts", apart := false }
def BucketPartsSaid : Prop := bucketPartsRow.holds Try.pinned (OpenSpec.ofChange bucketPartsSpec)

/-- ITS FALSE NEIGHBOUR: 'it returns false'. Refute it at one input. -/
def bucketPartsWrong : ChangeSpec := { name := "bucketParts", fn := fun _ => fun
  | [d1, d2, d3] => { results := [.lit (.bool false)], args := [d1, d2, d3] }
  | _ => none }
def BucketPartsWrongFalsely : Prop := bucketPartsRow.holds Try.pinned (OpenSpec.ofChange bucketPartsWrong)

/- THE SECOND FORM. 'bulk': how many values and letters a reading holds, each counted each time it is reached (what is shared counts as often as it is met; a slice's spare places count too). A statement '..UptoSaid' is the law's where the arguments, and the package variables that the reading takes, are together of bulk at most 1048576: NARROWER than '..Said'. Prove '..Said' where nothing that the law and all that it calls make is longer than what came in: it says more and counts as full. Else prove '..UptoSaid'. A law counts once. -/
mutual
def uptoBulk {H : Type} : DataW H → Nat
  | .lit (.string bytes) => bytes.length + 1
  | .lit _ => 1
  | .nil => 1
  | .ptr d => uptoBulk d + 1
  | .slice elems spare => uptoBulkAll elems + uptoBulkAll spare + 1
  | .agg parts => uptoBulkAll parts + 1
  | .iface _ d => uptoBulk d + 1
  | .map entries => uptoBulkEntries entries + 1
  | .held _ => 1
def uptoBulkAll {H : Type} : List (DataW H) → Nat
  | [] => 0
  | d :: r => uptoBulk d + uptoBulkAll r
def uptoBulkEntries {H : Type} : List (Lit × DataW H) → Nat
  | [] => 0
  | x :: r => uptoBulkEntry x + uptoBulkEntries r
def uptoBulkEntry {H : Type} : Lit × DataW H → Nat
  | (.string bytes, d) => bytes.length + uptoBulk d + 1
  | (_, d) => uptoBulk d + 1
 end
def uptoSmall : (H : Type) → List (DataW H) → Bool := fun _ ds => decide (uptoBulkAll ds ≤ 1048576)
def OpenSpec.upto (s : _root_.Go.ChangeSpec) : _root_.Go.OpenSpec := { _root_.Go.OpenSpec.ofChange s with cond := some uptoSmall }

/-- 'headkeep.WindowGrows', WHERE WHAT IT READS IS OF BULK AT MOST 1048576: true; the input reads as it did. -/
def windowGrowsUptoRow : OpenClaim := { program := "ytopldjklmjkcmaa", sum := "f7cd2d84b9561dcaf928fc1d7399c6cc009b566802c5c148f9425cc125841678", func := "headway/headkeep.WindowGrows", spec := "windowGrows", apart := false, narrowed := true }
def WindowGrowsUptoSaid : Prop := windowGrowsUptoRow.holds Try.pinned (OpenSpec.upto windowGrowsSpec)

/-- 'headkeep.WindowFull', WHERE WHAT IT READS IS OF BULK AT MOST 1048576: true; the input reads as it did. -/
def windowFullUptoRow : OpenClaim := { program := "ytopldjklmjkcmaa", sum := "f7cd2d84b9561dcaf928fc1d7399c6cc009b566802c5c148f9425cc125841678", func := "headway/headkeep.WindowFull", spec := "windowFull", apart := false, narrowed := true }
def WindowFullUptoSaid : Prop := windowFullUptoRow.holds Try.pinned (OpenSpec.upto windowFullSpec)

/-- 'headkeep.WindowOne', WHERE WHAT IT READS IS OF BULK AT MOST 1048576: true; the input reads as it did. -/
def windowOneUptoRow : OpenClaim := { program := "ytopldjklmjkcmaa", sum := "f7cd2d84b9561dcaf928fc1d7399c6cc009b566802c5c148f9425cc125841678", func := "headway/headkeep.WindowOne", spec := "windowOne", apart := false, narrowed := true }
def WindowOneUptoSaid : Prop := windowOneUptoRow.holds Try.pinned (OpenSpec.upto windowOneSpec)

/-- 'headkeep.WindowForm', WHERE WHAT IT READS IS OF BULK AT MOST 1048576: true; the input reads as it did. -/
def windowFormUptoRow : OpenClaim := { program := "ytopldjklmjkcmaa", sum := "f7cd2d84b9561dcaf928fc1d7399c6cc009b566802c5c148f9425cc125841678", func := "headway/headkeep.WindowForm", spec := "windowForm", apart := false, narrowed := true }
def WindowFormUptoSaid : Prop := windowFormUptoRow.holds Try.pinned (OpenSpec.upto windowFormSpec)

/-- 'headkeep.RetryWaits', WHERE WHAT IT READS IS OF BULK AT MOST 1048576: true; the input reads as it did. -/
def retryWaitsUptoRow : OpenClaim := { program := "ytopldjklmjkcmaa", sum := "f7cd2d84b9561dcaf928fc1d7399c6cc009b566802c5c148f9425cc125841678", func := "headway/headkeep.RetryWaits", spec := "retryWaits", apart := false, narrowed := true }
def RetryWaitsUptoSaid : Prop := retryWaitsUptoRow.holds Try.pinned (OpenSpec.upto retryWaitsSpec)

/-- 'headkeep.RetryLater', WHERE WHAT IT READS IS OF BULK AT MOST 1048576: true; the input reads as it did. -/
def retryLaterUptoRow : OpenClaim := { program := "ytopldjklmjkcmaa", sum := "f7cd2d84b9561dcaf928fc1d7399c6cc009b566802c5c148f9425cc125841678", func := "headway/headkeep.RetryLater", spec := "retryLater", apart := false, narrowed := true }
def RetryLaterUptoSaid : Prop := retryLaterUptoRow.holds Try.pinned (OpenSpec.upto retryLaterSpec)

/-- 'headkeep.ResumeWhole', WHERE WHAT IT READS IS OF BULK AT MOST 1048576: true; the input reads as it did. -/
def resumeWholeUptoRow : OpenClaim := { program := "ytopldjklmjkcmaa", sum := "f7cd2d84b9561dcaf928fc1d7399c6cc009b566802c5c148f9425cc125841678", func := "headway/headkeep.ResumeWhole", spec := "resumeWhole", apart := false, narrowed := true }
def ResumeWholeUptoSaid : Prop := resumeWholeUptoRow.holds Try.pinned (OpenSpec.upto resumeWholeSpec)

/-- 'headkeep.ResumeBy', WHERE WHAT IT READS IS OF BULK AT MOST 1048576: true; the input reads as it did. -/
def resumeByUptoRow : OpenClaim := { program := "ytopldjklmjkcmaa", sum := "f7cd2d84b9561dcaf928fc1d7399c6cc009b566802c5c148f9425cc125841678", func := "headway/headkeep.ResumeBy", spec := "resumeBy", apart := false, narrowed := true }
def ResumeByUptoSaid : Prop := resumeByUptoRow.holds Try.pinned (OpenSpec.upto resumeBySpec)

/-- 'headkeep.ShareLast', WHERE WHAT IT READS IS OF BULK AT MOST 1048576: true; the input reads as it did. -/
def shareLastUptoRow : OpenClaim := { program := "ytopldjklmjkcmaa", sum := "f7cd2d84b9561dcaf928fc1d7399c6cc009b566802c5c148f9425cc125841678", func := "headway/headkeep.ShareLast", spec := "shareLast", apart := false, narrowed := true }
def ShareLastUptoSaid : Prop := shareLastUptoRow.holds Try.pinned (OpenSpec.upto shareLastSpec)

/-- 'headkeep.ShareEach', WHERE WHAT IT READS IS OF BULK AT MOST 1048576: true; the input reads as it did. -/
def shareEachUptoRow : OpenClaim := { program := "ytopldjklmjkcmaa", sum := "f7cd2d84b9561dcaf928fc1d7399c6cc009b566802c5c148f9425cc125841678", func := "headway/headkeep.ShareEach", spec := "shareEach", apart := false, narrowed := true }
def ShareEachUptoSaid : Prop := shareEachUptoRow.holds Try.pinned (OpenSpec.upto shareEachSpec)

/-- 'headkeep.ShareMore', WHERE WHAT IT READS IS OF BULK AT MOST 1048576: true; the input reads as it did. -/
def shareMoreUptoRow : OpenClaim := { program := "ytopldjklmjkcmaa", sum := "f7cd2d84b9561dcaf928fc1d7399c6cc009b566802c5c148f9425cc125841678", func := "headway/headkeep.ShareMore", spec := "shareMore", apart := false, narrowed := true }
def ShareMoreUptoSaid : Prop := shareMoreUptoRow.holds Try.pinned (OpenSpec.upto shareMoreSpec)

/-- 'headkeep.BucketParts', WHERE WHAT IT READS IS OF BULK AT MOST 1048576: true; the input reads as it did. -/
def bucketPartsUptoRow : OpenClaim := { program := "ytopldjklmjkcmaa", sum := "f7cd2d84b9561dcaf928fc1d7399c6cc009b566802c5c148f9425cc125841678", func := "headway/headkeep.BucketParts", spec := "bucketParts", apart := false, narrowed := true }
def BucketPartsUptoSaid : Prop := bucketPartsUptoRow.holds Try.pinned (OpenSpec.upto bucketPartsSpec)

end Rows
end Go.Proofs.Ytopldjklmjkcmaa
