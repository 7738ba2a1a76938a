/-
  No cell of these rows narrows 'for every input' (looked for: loops, veiled, ifaces, maps, wideKeys, modest, calm, conditions, laid).
  DERIVED. THE GIVEN ROWS OF THIS SEAT. 10 by the template 'for every input the law returns true; each argument reads behind the call as it read before'; 0 by the template 'total and deterministic' (their statements: YtpifknmoimlpoaaTotals.lean).
  GIVEN WITH THE SEED: the statements are not yours to turn. If you find one false, say at which input.
  Laid BY PROGRAM, IN A SANDBOX (cutbox-rows.mjs): the forced cells as the released guide's own fill.sh prints them over the translation 62399bcaeeb57d07… (all of the seat's roots in one cut). By AI agents, Wed Nov 11 2026. No macro, syntax, notation, axiom, sorry.
-/
import Derived.Test.YtpifknmoimlpoaaChecked
import GoSem.Claim
import GoSem.ClaimJoined
import GoSem.ClaimMapViews
import Derived.JoinedTies
import Derived.KernelRfl
namespace Go.Proofs.Ytpifknmoimlpoaa
/- THE CELL 'sum', in the pinned program and in every row, IS THE sha256 OF THE DUMP (.gsa) THAT YtpifknmoimlpoaaProg.lean LOADS. Nothing in Lean hashes anything: it is a label: what it is worth is what the hold of that sum in a sandbox is worth. -/
noncomputable def Try.pinned : Pinned := { name := "ytpifknmoimlpoaa", sum := "62399bcaeeb57d07c004d5ce483758ecb6839b83dc496a2af602683ecaa2f902", checked := Try.checked }
namespace Rows
def none {H : Type} : Left H := { results := [], args := [] }

/-- 'headkeep.TurnsAll': WHATEVER THE INPUT: true; the input reads as it did. -/
def turnsAllSpec : ChangeSpec := { name := "turnsAll", fn := fun _ => fun
  | [d] => { results := [.lit (.bool true)], args := [d] }
  | _ => none }
def turnsAllRow : OpenClaim := { program := "ytpifknmoimlpoaa", sum := "62399bcaeeb57d07c004d5ce483758ecb6839b83dc496a2af602683ecaa2f902", func := "headway/headkeep.TurnsAll", spec := "turnsAll", unfollowed := true, recurses := true, apart := false }
def TurnsAllSaid : Prop := turnsAllRow.holds Try.pinned (OpenSpec.ofChange turnsAllSpec)

/-- ITS FALSE NEIGHBOUR: 'it returns false'. Refute it at one input. -/
def turnsAllWrong : ChangeSpec := { name := "turnsAll", fn := fun _ => fun
  | [d] => { results := [.lit (.bool false)], args := [d] }
  | _ => none }
def TurnsAllWrongFalsely : Prop := turnsAllRow.holds Try.pinned (OpenSpec.ofChange turnsAllWrong)

/-- 'headkeep.TurnsGrow': WHATEVER THE INPUT: true; the input reads as it did. -/
def turnsGrowSpec : ChangeSpec := { name := "turnsGrow", fn := fun _ => fun
  | [d1, d2, d3] => { results := [.lit (.bool true)], args := [d1, d2, d3] }
  | _ => none }
def turnsGrowRow : OpenClaim := { program := "ytpifknmoimlpoaa", sum := "62399bcaeeb57d07c004d5ce483758ecb6839b83dc496a2af602683ecaa2f902", func := "headway/headkeep.TurnsGrow", spec := "turnsGrow", unfollowed := true, recurses := true, apart := false }
def TurnsGrowSaid : Prop := turnsGrowRow.holds Try.pinned (OpenSpec.ofChange turnsGrowSpec)

/-- ITS FALSE NEIGHBOUR: 'it returns false'. Refute it at one input. -/
def turnsGrowWrong : ChangeSpec := { name := "turnsGrow", fn := fun _ => fun
  | [d1, d2, d3] => { results := [.lit (.bool false)], args := [d1, d2, d3] }
  | _ => none }
def TurnsGrowWrongFalsely : Prop := turnsGrowRow.holds Try.pinned (OpenSpec.ofChange turnsGrowWrong)

/-- 'headkeep.TurnsShort': WHATEVER THE INPUT: true; the input reads as it did. -/
def turnsShortSpec : ChangeSpec := { name := "turnsShort", fn := fun _ => fun
  | [d1, d2] => { results := [.lit (.bool true)], args := [d1, d2] }
  | _ => none }
def turnsShortRow : OpenClaim := { program := "ytpifknmoimlpoaa", sum := "62399bcaeeb57d07c004d5ce483758ecb6839b83dc496a2af602683ecaa2f902", func := "headway/headkeep.TurnsShort", spec := "turnsShort", unfollowed := true, recurses := true, apart := false }
def TurnsShortSaid : Prop := turnsShortRow.holds Try.pinned (OpenSpec.ofChange turnsShortSpec)

/-- ITS FALSE NEIGHBOUR: 'it returns false'. Refute it at one input. -/
def turnsShortWrong : ChangeSpec := { name := "turnsShort", fn := fun _ => fun
  | [d1, d2] => { results := [.lit (.bool false)], args := [d1, d2] }
  | _ => none }
def TurnsShortWrongFalsely : Prop := turnsShortRow.holds Try.pinned (OpenSpec.ofChange turnsShortWrong)

/-- 'headkeep.TurnsFair': WHATEVER THE INPUT: true; the input reads as it did. -/
def turnsFairSpec : ChangeSpec := { name := "turnsFair", fn := fun _ => fun
  | [d1, d2, d3, d4] => { results := [.lit (.bool true)], args := [d1, d2, d3, d4] }
  | _ => none }
def turnsFairRow : OpenClaim := { program := "ytpifknmoimlpoaa", sum := "62399bcaeeb57d07c004d5ce483758ecb6839b83dc496a2af602683ecaa2f902", func := "headway/headkeep.TurnsFair", spec := "turnsFair", unfollowed := true, recurses := true, apart := false }
def TurnsFairSaid : Prop := turnsFairRow.holds Try.pinned (OpenSpec.ofChange turnsFairSpec)

/-- ITS FALSE NEIGHBOUR: 'it returns false'. Refute it at one input. -/
def turnsFairWrong : ChangeSpec := { name := "turnsFair", fn := fun _ => fun
  | [d1, d2, d3, d4] => { results := [.lit (.bool false)], args := [d1, d2, d3, d4] }
  | _ => none }
def TurnsFairWrongFalsely : Prop := turnsFairRow.holds Try.pinned (OpenSpec.ofChange turnsFairWrong)

/-- 'headkeep.TurnsAlone': WHATEVER THE INPUT: true; the input reads as it did. -/
def turnsAloneSpec : ChangeSpec := { name := "turnsAlone", fn := fun _ => fun
  | [d1, d2, d3] => { results := [.lit (.bool true)], args := [d1, d2, d3] }
  | _ => none }
def turnsAloneRow : OpenClaim := { program := "ytpifknmoimlpoaa", sum := "62399bcaeeb57d07c004d5ce483758ecb6839b83dc496a2af602683ecaa2f902", func := "headway/headkeep.TurnsAlone", spec := "turnsAlone", unfollowed := true, recurses := true, apart := false }
def TurnsAloneSaid : Prop := turnsAloneRow.holds Try.pinned (OpenSpec.ofChange turnsAloneSpec)

/-- ITS FALSE NEIGHBOUR: 'it returns false'. Refute it at one input. -/
def turnsAloneWrong : ChangeSpec := { name := "turnsAlone", fn := fun _ => fun
  | [d1, d2, d3] => { results := [.lit (.bool false)], args := [d1, d2, d3] }
  | _ => none }
def TurnsAloneWrongFalsely : Prop := turnsAloneRow.holds Try.pinned (OpenSpec.ofChange turnsAloneWrong)

/-- 'headtop.TopWindow': WHATEVER THE INPUT: true; the input reads as it did. -/
def topWindowSpec : ChangeSpec := { name := "topWindow", fn := fun _ => fun
  | [d1, d2, d3] => { results := [.lit (.bool true)], args := [d1, d2, d3] }
  | _ => none }
def topWindowRow : OpenClaim := { program := "ytpifknmoimlpoaa", sum := "62399bcaeeb57d07c004d5ce483758ecb6839b83dc496a2af602683ecaa2f902", func := "headway/headtop.TopWindow", spec := "topWindow", unfollowed := true, recurses := true, apart := false }
def TopWindowSaid : Prop := topWindowRow.holds Try.pinned (OpenSpec.ofChange topWindowSpec)

/-- ITS FALSE NEIGHBOUR: 'it returns false'. Refute it at one input. -/
def topWindowWrong : ChangeSpec := { name := "topWindow", fn := fun _ => fun
  | [d1, d2, d3] => { results := [.lit (.bool false)], args := [d1, d2, d3] }
  | _ => none }
def TopWindowWrongFalsely : Prop := topWindowRow.holds Try.pinned (OpenSpec.ofChange topWindowWrong)

/-- 'headkeep.QueuesOwn': WHATEVER THE INPUT: true; the input reads as it did. -/
def queuesOwnSpec : ChangeSpec := { name := "queuesOwn", fn := fun _ => fun
  | [d1, d2, d3, d4] => { results := [.lit (.bool true)], args := [d1, d2, d3, d4] }
  | _ => none }
def queuesOwnRow : OpenClaim := { program := "ytpifknmoimlpoaa", sum := "62399bcaeeb57d07c004d5ce483758ecb6839b83dc496a2af602683ecaa2f902", func := "headway/headkeep.QueuesOwn", spec := "queuesOwn", unfollowed := true, recurses := true, apart := false }
def QueuesOwnSaid : Prop := queuesOwnRow.holds Try.pinned (OpenSpec.ofChange queuesOwnSpec)

/-- ITS FALSE NEIGHBOUR: 'it returns false'. Refute it at one input. -/
def queuesOwnWrong : ChangeSpec := { name := "queuesOwn", fn := fun _ => fun
  | [d1, d2, d3, d4] => { results := [.lit (.bool false)], args := [d1, d2, d3, d4] }
  | _ => none }
def QueuesOwnWrongFalsely : Prop := queuesOwnRow.holds Try.pinned (OpenSpec.ofChange queuesOwnWrong)

/-- 'headkeep.CurvesOwn': WHATEVER THE INPUT: true; the input reads as it did. -/
def curvesOwnSpec : ChangeSpec := { name := "curvesOwn", fn := fun _ => fun
  | [d1, d2, d3] => { results := [.lit (.bool true)], args := [d1, d2, d3] }
  | _ => none }
def curvesOwnRow : OpenClaim := { program := "ytpifknmoimlpoaa", sum := "62399bcaeeb57d07c004d5ce483758ecb6839b83dc496a2af602683ecaa2f902", func := "headway/headkeep.CurvesOwn", spec := "curvesOwn", unfollowed := true, recurses := true, apart := false }
def CurvesOwnSaid : Prop := curvesOwnRow.holds Try.pinned (OpenSpec.ofChange curvesOwnSpec)

/-- ITS FALSE NEIGHBOUR: 'it returns false'. Refute it at one input. -/
def curvesOwnWrong : ChangeSpec := { name := "curvesOwn", fn := fun _ => fun
  | [d1, d2, d3] => { results := [.lit (.bool false)], args := [d1, d2, d3] }
  | _ => none }
def CurvesOwnWrongFalsely : Prop := curvesOwnRow.holds Try.pinned (OpenSpec.ofChange curvesOwnWrong)

/-- 'headkeep.ListsOwn': WHATEVER THE INPUT: true; the input reads as it did. -/
def listsOwnSpec : ChangeSpec := { name := "listsOwn", fn := fun _ => fun
  | [d1, d2, d3, d4, d5, d6] => { results := [.lit (.bool true)], args := [d1, d2, d3, d4, d5, d6] }
  | _ => none }
def listsOwnRow : OpenClaim := { program := "ytpifknmoimlpoaa", sum := "62399bcaeeb57d07c004d5ce483758ecb6839b83dc496a2af602683ecaa2f902", func := "headway/headkeep.ListsOwn", spec := "listsOwn", inPlace := ["slices.overlaps[headway/api.Lease]"], unfollowed := true, recurses := true, apart := false }
def ListsOwnSaid : Prop := listsOwnRow.holds Try.pinned (OpenSpec.ofChange listsOwnSpec)

/-- ITS FALSE NEIGHBOUR: 'it returns false'. Refute it at one input. -/
def listsOwnWrong : ChangeSpec := { name := "listsOwn", fn := fun _ => fun
  | [d1, d2, d3, d4, d5, d6] => { results := [.lit (.bool false)], args := [d1, d2, d3, d4, d5, d6] }
  | _ => none }
def ListsOwnWrongFalsely : Prop := listsOwnRow.holds Try.pinned (OpenSpec.ofChange listsOwnWrong)

/-- 'headkeep.FifoLittle': WHATEVER THE INPUT: true; the input reads as it did. -/
def fifoLittleSpec : ChangeSpec := { name := "fifoLittle", fn := fun _ => fun
  | [d] => { results := [.lit (.bool true)], args := [d] }
  | _ => none }
def fifoLittleRow : OpenClaim := { program := "ytpifknmoimlpoaa", sum := "62399bcaeeb57d07c004d5ce483758ecb6839b83dc496a2af602683ecaa2f902", func := "headway/headkeep.FifoLittle", spec := "fifoLittle", recurses := true, apart := false }
def FifoLittleSaid : Prop := fifoLittleRow.holds Try.pinned (OpenSpec.ofChange fifoLittleSpec)

/-- ITS FALSE NEIGHBOUR: 'it returns false'. Refute it at one input. -/
def fifoLittleWrong : ChangeSpec := { name := "fifoLittle", fn := fun _ => fun
  | [d] => { results := [.lit (.bool false)], args := [d] }
  | _ => none }
def FifoLittleWrongFalsely : Prop := fifoLittleRow.holds Try.pinned (OpenSpec.ofChange fifoLittleWrong)

/- THE SECOND FORM. 'bulk': how many values and letters a reading holds, each counted each time it is reached (what is shared counts as often as it is met; a slice's spare places count too). A statement '..UptoSaid' is the law's where the arguments, and the package variables that the reading takes, are together of bulk at most 1048576: NARROWER than '..Said'. Prove '..Said' where nothing that the law and all that it calls make is longer than what came in: it says more and counts as full. Else prove '..UptoSaid'. A law counts once. -/
mutual
def uptoBulk {H : Type} : DataW H → Nat
  | .lit (.string bytes) => bytes.length + 1
  | .lit _ => 1
  | .nil => 1
  | .ptr d => uptoBulk d + 1
  | .slice elems spare => uptoBulkAll elems + uptoBulkAll spare + 1
  | .agg parts => uptoBulkAll parts + 1
  | .iface _ d => uptoBulk d + 1
  | .map entries => uptoBulkEntries entries + 1
  | .held _ => 1
def uptoBulkAll {H : Type} : List (DataW H) → Nat
  | [] => 0
  | d :: r => uptoBulk d + uptoBulkAll r
def uptoBulkEntries {H : Type} : List (Lit × DataW H) → Nat
  | [] => 0
  | x :: r => uptoBulkEntry x + uptoBulkEntries r
def uptoBulkEntry {H : Type} : Lit × DataW H → Nat
  | (.string bytes, d) => bytes.length + uptoBulk d + 1
  | (_, d) => uptoBulk d + 1
 end
def uptoSmall : (H : Type) → List (DataW H) → Bool := fun _ ds => decide (uptoBulkAll ds ≤ 1048576)
def OpenSpec.upto (s : _root_.Go.ChangeSpec) : _root_.Go.OpenSpec := { _root_.Go.OpenSpec.ofChange s with cond := some uptoSmall }

/-- 'headkeep.TurnsAll', WHERE WHAT IT READS IS OF BULK AT MOST 1048576: true; the input reads as it did. -/
def turnsAllUptoRow : OpenClaim := { program := "ytpifknmoimlpoaa", sum := "62399bcaeeb57d07c004d5ce483758ecb6839b83dc496a2af602683ecaa2f902", func := "headway/headkeep.TurnsAll", spec := "turnsAll", unfollowed := true, recurses := true, apart := false, narrowed := true }
def TurnsAllUptoSaid : Prop := turnsAllUptoRow.holds Try.pinned (OpenSpec.upto turnsAllSpec)

/-- 'headkeep.TurnsGrow', WHERE WHAT IT READS IS OF BULK AT MOST 1048576: true; the input reads as it did. -/
def turnsGrowUptoRow : OpenClaim := { program := "ytpifknmoimlpoaa", sum := "62399bcaeeb57d07c004d5ce483758ecb6839b83dc496a2af602683ecaa2f902", func := "headway/headkeep.TurnsGrow", spec := "turnsGrow", unfollowed := true, recurses := true, apart := false, narrowed := true }
def TurnsGrowUptoSaid : Prop := turnsGrowUptoRow.holds Try.pinned (OpenSpec.upto turnsGrowSpec)

/-- 'headkeep.TurnsShort', WHERE WHAT IT READS IS OF BULK AT MOST 1048576: true; the input reads as it did. -/
def turnsShortUptoRow : OpenClaim := { program := "ytpifknmoimlpoaa", sum := "62399bcaeeb57d07c004d5ce483758ecb6839b83dc496a2af602683ecaa2f902", func := "headway/headkeep.TurnsShort", spec := "turnsShort", unfollowed := true, recurses := true, apart := false, narrowed := true }
def TurnsShortUptoSaid : Prop := turnsShortUptoRow.holds Try.pinned (OpenSpec.upto turnsShortSpec)

/-- 'headkeep.TurnsFair', WHERE WHAT IT READS IS OF BULK AT MOST 1048576: true; the input reads as it did. -/
def turnsFairUptoRow : OpenClaim := { program := "ytpifknmoimlpoaa", sum := "62399bcaeeb57d07c004d5ce483758ecb6839b83dc496a2af602683ecaa2f902", func := "headway/headkeep.TurnsFair", spec := "turnsFair", unfollowed := true, recurses := true, apart := false, narrowed := true }
def TurnsFairUptoSaid : Prop := turnsFairUptoRow.holds Try.pinned (OpenSpec.upto turnsFairSpec)

/-- 'headkeep.TurnsAlone', WHERE WHAT IT READS IS OF BULK AT MOST 1048576: true; the input reads as it did. -/
def turnsAloneUptoRow : OpenClaim := { program := "ytpifknmoimlpoaa", sum := "62399bcaeeb57d07c004d5ce483758ecb6839b83dc496a2af602683ecaa2f902", func := "headway/headkeep.TurnsAlone", spec := "turnsAlone", unfollowed := true, recurses := true, apart := false, narrowed := true }
def TurnsAloneUptoSaid : Prop := turnsAloneUptoRow.holds Try.pinned (OpenSpec.upto turnsAloneSpec)

/-- 'headtop.TopWindow', WHERE WHAT IT READS IS OF BULK AT MOST 1048576: true; the input reads as it did. -/
def topWindowUptoRow : OpenClaim := { program := "ytpifknmoimlpoaa", sum := "62399bcaeeb57d07c004d5ce483758ecb6839b83dc496a2af602683ecaa2f902", func := "headway/headtop.TopWindow", spec := "topWindow", unfollowed := true, recurses := true, apart := false, narrowed := true }
def TopWindowUptoSaid : Prop := topWindowUptoRow.holds Try.pinned (OpenSpec.upto topWindowSpec)

/-- 'headkeep.QueuesOwn', WHERE WHAT IT READS IS OF BULK AT MOST 1048576: true; the input reads as it did. -/
def queuesOwnUptoRow : OpenClaim := { program := "ytpifknmoimlpoaa", sum := "62399bcaeeb57d07c004d5ce483758ecb6839b83dc496a2af602683ecaa2f902", func := "headway/headkeep.QueuesOwn", spec := "queuesOwn", unfollowed := true, recurses := true, apart := false, narrowed := true }
def QueuesOwnUptoSaid : Prop := queuesOwnUptoRow.holds Try.pinned (OpenSpec.upto queuesOwnSpec)

/-- 'headkeep.CurvesOwn', WHERE WHAT IT READS IS OF BULK AT MOST 1048576: true; the input reads as it did. -/
def curvesOwnUptoRow : OpenClaim := { program := "ytpifknmoimlpoaa", sum := "62399bcaeeb57d07c004d5ce483758ecb6839b83dc496a2af602683ecaa2f902", func := "headway/headkeep.CurvesOwn", spec := "curvesOwn", unfollowed := true, recurses := true, apart := false, narrowed := true }
def CurvesOwnUptoSaid : Prop := curvesOwnUptoRow.holds Try.pinned (OpenSpec.upto curvesOwnSpec)

/-- 'headkeep.ListsOwn', WHERE WHAT IT READS IS OF BULK AT MOST 1048576: true; the input reads as it did. -/
def listsOwnUptoRow : OpenClaim := { program := "ytpifknmoimlpoaa", sum := "62399bcaeeb57d07c004d5ce483758ecb6839b83dc496a2af602683ecaa2f902", func := "headway/headkeep.ListsOwn", spec := "listsOwn", inPlace := ["slices.overlaps[headway/api.Lease]"], unfollowed := true, recurses := true, apart := false, narrowed := true }
def ListsOwnUptoSaid : Prop := listsOwnUptoRow.holds Try.pinned (OpenSpec.upto listsOwnSpec)

/-- 'headkeep.FifoLittle', WHERE WHAT IT READS IS OF BULK AT MOST 1048576: true; the input reads as it did. -/
def fifoLittleUptoRow : OpenClaim := { program := "ytpifknmoimlpoaa", sum := "62399bcaeeb57d07c004d5ce483758ecb6839b83dc496a2af602683ecaa2f902", func := "headway/headkeep.FifoLittle", spec := "fifoLittle", recurses := true, apart := false, narrowed := true }
def FifoLittleUptoSaid : Prop := fifoLittleUptoRow.holds Try.pinned (OpenSpec.upto fifoLittleSpec)

end Rows
end Go.Proofs.Ytpifknmoimlpoaa
