/-
  No cell of these rows narrows 'for every input' (looked for: loops, veiled, ifaces, maps, wideKeys, modest, calm, conditions, laid).
  DERIVED. THE GIVEN ROWS OF THIS SEAT. 12 by the template 'for every input the law returns true; each argument reads behind the call as it read before'; 0 by the template 'total and deterministic' (their statements: YtihhldphpoddhaaTotals.lean).
  GIVEN WITH THE SEED: the statements are not yours to turn. If you find one false, say at which input.
  Laid BY PROGRAM, IN A SANDBOX (cutbox-rows.mjs): the forced cells as the released guide's own fill.sh prints them over the translation c4f7d0e6986388ca… (all of the seat's roots in one cut). By AI agents, Wed Nov 11 2026. No macro, syntax, notation, axiom, sorry.
-/
import Derived.Test.YtihhldphpoddhaaChecked
import GoSem.Claim
import GoSem.ClaimJoined
import GoSem.ClaimMapViews
import Derived.JoinedTies
import Derived.KernelRfl
namespace Go.Proofs.Ytihhldphpoddhaa
/- THE CELL 'sum', in the pinned program and in every row, IS THE sha256 OF THE DUMP (.gsa) THAT YtihhldphpoddhaaProg.lean LOADS. Nothing in Lean hashes anything: it is a label: what it is worth is what the hold of that sum in a sandbox is worth. -/
noncomputable def Try.pinned : Pinned := { name := "ytihhldphpoddhaa", sum := "c4f7d0e6986388ca9299073ddab92541c8a95f07a3bd2db01d8a0b81588fca23", checked := Try.checked }
namespace Rows
def none {H : Type} : Left H := { results := [], args := [] }

/-- 'headkeep.LineTwo': WHATEVER THE INPUT: true; the input reads as it did. -/
def lineTwoSpec : ChangeSpec := { name := "lineTwo", fn := fun _ => fun
  | [d1, d2, d3] => { results := [.lit (.bool true)], args := [d1, d2, d3] }
  | _ => none }
def lineTwoRow : OpenClaim := { program := "ytihhldphpoddhaa", sum := "c4f7d0e6986388ca9299073ddab92541c8a95f07a3bd2db01d8a0b81588fca23", func := "headway/headkeep.LineTwo", spec := "lineTwo", apart := false }
def LineTwoSaid : Prop := lineTwoRow.holds Try.pinned (OpenSpec.ofChange lineTwoSpec)

/-- ITS FALSE NEIGHBOUR: 'it returns false'. Refute it at one input. -/
def lineTwoWrong : ChangeSpec := { name := "lineTwo", fn := fun _ => fun
  | [d1, d2, d3] => { results := [.lit (.bool false)], args := [d1, d2, d3] }
  | _ => none }
def LineTwoWrongFalsely : Prop := lineTwoRow.holds Try.pinned (OpenSpec.ofChange lineTwoWrong)

/-- 'headkeep.LineSums': WHATEVER THE INPUT: true; the input reads as it did. -/
def lineSumsSpec : ChangeSpec := { name := "lineSums", fn := fun _ => fun
  | [d1, d2] => { results := [.lit (.bool true)], args := [d1, d2] }
  | _ => none }
def lineSumsRow : OpenClaim := { program := "ytihhldphpoddhaa", sum := "c4f7d0e6986388ca9299073ddab92541c8a95f07a3bd2db01d8a0b81588fca23", func := "headway/headkeep.LineSums", spec := "lineSums", apart := false }
def LineSumsSaid : Prop := lineSumsRow.holds Try.pinned (OpenSpec.ofChange lineSumsSpec)

/-- ITS FALSE NEIGHBOUR: 'it returns false'. Refute it at one input. -/
def lineSumsWrong : ChangeSpec := { name := "lineSums", fn := fun _ => fun
  | [d1, d2] => { results := [.lit (.bool false)], args := [d1, d2] }
  | _ => none }
def LineSumsWrongFalsely : Prop := lineSumsRow.holds Try.pinned (OpenSpec.ofChange lineSumsWrong)

/-- 'headkeep.LineGrows': WHATEVER THE INPUT: true; the input reads as it did. -/
def lineGrowsSpec : ChangeSpec := { name := "lineGrows", fn := fun _ => fun
  | [d1, d2, d3, d4] => { results := [.lit (.bool true)], args := [d1, d2, d3, d4] }
  | _ => none }
def lineGrowsRow : OpenClaim := { program := "ytihhldphpoddhaa", sum := "c4f7d0e6986388ca9299073ddab92541c8a95f07a3bd2db01d8a0b81588fca23", func := "headway/headkeep.LineGrows", spec := "lineGrows", apart := false }
def LineGrowsSaid : Prop := lineGrowsRow.holds Try.pinned (OpenSpec.ofChange lineGrowsSpec)

/-- ITS FALSE NEIGHBOUR: 'it returns false'. Refute it at one input. -/
def lineGrowsWrong : ChangeSpec := { name := "lineGrows", fn := fun _ => fun
  | [d1, d2, d3, d4] => { results := [.lit (.bool false)], args := [d1, d2, d3, d4] }
  | _ => none }
def LineGrowsWrongFalsely : Prop := lineGrowsRow.holds Try.pinned (OpenSpec.ofChange lineGrowsWrong)

/-- 'headkeep.LineWaits': WHATEVER THE INPUT: true; the input reads as it did. -/
def lineWaitsSpec : ChangeSpec := { name := "lineWaits", fn := fun _ => fun
  | [d1, d2] => { results := [.lit (.bool true)], args := [d1, d2] }
  | _ => none }
def lineWaitsRow : OpenClaim := { program := "ytihhldphpoddhaa", sum := "c4f7d0e6986388ca9299073ddab92541c8a95f07a3bd2db01d8a0b81588fca23", func := "headway/headkeep.LineWaits", spec := "lineWaits", apart := false }
def LineWaitsSaid : Prop := lineWaitsRow.holds Try.pinned (OpenSpec.ofChange lineWaitsSpec)

/-- ITS FALSE NEIGHBOUR: 'it returns false'. Refute it at one input. -/
def lineWaitsWrong : ChangeSpec := { name := "lineWaits", fn := fun _ => fun
  | [d1, d2] => { results := [.lit (.bool false)], args := [d1, d2] }
  | _ => none }
def LineWaitsWrongFalsely : Prop := lineWaitsRow.holds Try.pinned (OpenSpec.ofChange lineWaitsWrong)

/-- 'headkeep.LineJoins': WHATEVER THE INPUT: true; the input reads as it did. -/
def lineJoinsSpec : ChangeSpec := { name := "lineJoins", fn := fun _ => fun
  | [d1, d2, d3] => { results := [.lit (.bool true)], args := [d1, d2, d3] }
  | _ => none }
def lineJoinsRow : OpenClaim := { program := "ytihhldphpoddhaa", sum := "c4f7d0e6986388ca9299073ddab92541c8a95f07a3bd2db01d8a0b81588fca23", func := "headway/headkeep.LineJoins", spec := "lineJoins", apart := false }
def LineJoinsSaid : Prop := lineJoinsRow.holds Try.pinned (OpenSpec.ofChange lineJoinsSpec)

/-- ITS FALSE NEIGHBOUR: 'it returns false'. Refute it at one input. -/
def lineJoinsWrong : ChangeSpec := { name := "lineJoins", fn := fun _ => fun
  | [d1, d2, d3] => { results := [.lit (.bool false)], args := [d1, d2, d3] }
  | _ => none }
def LineJoinsWrongFalsely : Prop := lineJoinsRow.holds Try.pinned (OpenSpec.ofChange lineJoinsWrong)

/-- 'headkeep.FifoOrders': WHATEVER THE INPUT: true; the input reads as it did. -/
def fifoOrdersSpec : ChangeSpec := { name := "fifoOrders", fn := fun _ => fun
  | [d] => { results := [.lit (.bool true)], args := [d] }
  | _ => none }
def fifoOrdersRow : OpenClaim := { program := "ytihhldphpoddhaa", sum := "c4f7d0e6986388ca9299073ddab92541c8a95f07a3bd2db01d8a0b81588fca23", func := "headway/headkeep.FifoOrders", spec := "fifoOrders", apart := false }
def FifoOrdersSaid : Prop := fifoOrdersRow.holds Try.pinned (OpenSpec.ofChange fifoOrdersSpec)

/-- ITS FALSE NEIGHBOUR: 'it returns false'. Refute it at one input. -/
def fifoOrdersWrong : ChangeSpec := { name := "fifoOrders", fn := fun _ => fun
  | [d] => { results := [.lit (.bool false)], args := [d] }
  | _ => none }
def FifoOrdersWrongFalsely : Prop := fifoOrdersRow.holds Try.pinned (OpenSpec.ofChange fifoOrdersWrong)

/-- 'headkeep.FifoMore': WHATEVER THE INPUT: true; the input reads as it did. -/
def fifoMoreSpec : ChangeSpec := { name := "fifoMore", fn := fun _ => fun
  | [d1, d2, d3] => { results := [.lit (.bool true)], args := [d1, d2, d3] }
  | _ => none }
def fifoMoreRow : OpenClaim := { program := "ytihhldphpoddhaa", sum := "c4f7d0e6986388ca9299073ddab92541c8a95f07a3bd2db01d8a0b81588fca23", func := "headway/headkeep.FifoMore", spec := "fifoMore", apart := false }
def FifoMoreSaid : Prop := fifoMoreRow.holds Try.pinned (OpenSpec.ofChange fifoMoreSpec)

/-- ITS FALSE NEIGHBOUR: 'it returns false'. Refute it at one input. -/
def fifoMoreWrong : ChangeSpec := { name := "fifoMore", fn := fun _ => fun
  | [d1, d2, d3] => { results := [.lit (.bool false)], args := [d1, d2, d3] }
  | _ => none }
def FifoMoreWrongFalsely : Prop := fifoMoreRow.holds Try.pinned (OpenSpec.ofChange fifoMoreWrong)

/-- 'headkeep.FifoShift': WHATEVER THE INPUT: true; the input reads as it did. -/
def fifoShiftSpec : ChangeSpec := { name := "fifoShift", fn := fun _ => fun
  | [d1, d2, d3] => { results := [.lit (.bool true)], args := [d1, d2, d3] }
  | _ => none }
def fifoShiftRow : OpenClaim := { program := "ytihhldphpoddhaa", sum := "c4f7d0e6986388ca9299073ddab92541c8a95f07a3bd2db01d8a0b81588fca23", func := "headway/headkeep.FifoShift", spec := "fifoShift", apart := false }
def FifoShiftSaid : Prop := fifoShiftRow.holds Try.pinned (OpenSpec.ofChange fifoShiftSpec)

/-- ITS FALSE NEIGHBOUR: 'it returns false'. Refute it at one input. -/
def fifoShiftWrong : ChangeSpec := { name := "fifoShift", fn := fun _ => fun
  | [d1, d2, d3] => { results := [.lit (.bool false)], args := [d1, d2, d3] }
  | _ => none }
def FifoShiftWrongFalsely : Prop := fifoShiftRow.holds Try.pinned (OpenSpec.ofChange fifoShiftWrong)

/-- 'headkeep.PrioFirst': WHATEVER THE INPUT: true; the input reads as it did. -/
def prioFirstSpec : ChangeSpec := { name := "prioFirst", fn := fun _ => fun
  | [d1, d2, d3] => { results := [.lit (.bool true)], args := [d1, d2, d3] }
  | _ => none }
def prioFirstRow : OpenClaim := { program := "ytihhldphpoddhaa", sum := "c4f7d0e6986388ca9299073ddab92541c8a95f07a3bd2db01d8a0b81588fca23", func := "headway/headkeep.PrioFirst", spec := "prioFirst", apart := false }
def PrioFirstSaid : Prop := prioFirstRow.holds Try.pinned (OpenSpec.ofChange prioFirstSpec)

/-- ITS FALSE NEIGHBOUR: 'it returns false'. Refute it at one input. -/
def prioFirstWrong : ChangeSpec := { name := "prioFirst", fn := fun _ => fun
  | [d1, d2, d3] => { results := [.lit (.bool false)], args := [d1, d2, d3] }
  | _ => none }
def PrioFirstWrongFalsely : Prop := prioFirstRow.holds Try.pinned (OpenSpec.ofChange prioFirstWrong)

/-- 'headkeep.BucketFits': WHATEVER THE INPUT: true; the input reads as it did. -/
def bucketFitsSpec : ChangeSpec := { name := "bucketFits", fn := fun _ => fun
  | [d1, d2] => { results := [.lit (.bool true)], args := [d1, d2] }
  | _ => none }
def bucketFitsRow : OpenClaim := { program := "ytihhldphpoddhaa", sum := "c4f7d0e6986388ca9299073ddab92541c8a95f07a3bd2db01d8a0b81588fca23", func := "headway/headkeep.BucketFits", spec := "bucketFits", apart := false }
def BucketFitsSaid : Prop := bucketFitsRow.holds Try.pinned (OpenSpec.ofChange bucketFitsSpec)

/-- ITS FALSE NEIGHBOUR: 'it returns false'. Refute it at one input. -/
def bucketFitsWrong : ChangeSpec := { name := "bucketFits", fn := fun _ => fun
  | [d1, d2] => { results := [.lit (.bool false)], args := [d1, d2] }
  | _ => none }
def BucketFitsWrongFalsely : Prop := bucketFitsRow.holds Try.pinned (OpenSpec.ofChange bucketFitsWrong)

/-- 'headkeep.BucketAll': WHATEVER THE INPUT: true; the input reads as it did. -/
def bucketAllSpec : ChangeSpec := { name := "bucketAll", fn := fun _ => fun
  | [d1, d2, d3] => { results := [.lit (.bool true)], args := [d1, d2, d3] }
  | _ => none }
def bucketAllRow : OpenClaim := { program := "ytihhldphpoddhaa", sum := "c4f7d0e6986388ca9299073ddab92541c8a95f07a3bd2db01d8a0b81588fca23", func := "headway/headkeep.BucketAll", spec := "bucketAll", apart := false }
def BucketAllSaid : Prop := bucketAllRow.holds Try.pinned (OpenSpec.ofChange bucketAllSpec)

/-- ITS FALSE NEIGHBOUR: 'it returns false'. Refute it at one input. -/
def bucketAllWrong : ChangeSpec := { name := "bucketAll", fn := fun _ => fun
  | [d1, d2, d3] => { results := [.lit (.bool false)], args := [d1, d2, d3] }
  | _ => none }
def BucketAllWrongFalsely : Prop := bucketAllRow.holds Try.pinned (OpenSpec.ofChange bucketAllWrong)

/-- 'headkeep.PieceTwo': WHATEVER THE INPUT: true; the input reads as it did. -/
def pieceTwoSpec : ChangeSpec := { name := "pieceTwo", fn := fun _ => fun
  | [d1, d2] => { results := [.lit (.bool true)], args := [d1, d2] }
  | _ => none }
def pieceTwoRow : OpenClaim := { program := "ytihhldphpoddhaa", sum := "c4f7d0e6986388ca9299073ddab92541c8a95f07a3bd2db01d8a0b81588fca23", func := "headway/headkeep.PieceTwo", spec := "pieceTwo", apart := false }
def PieceTwoSaid : Prop := pieceTwoRow.holds Try.pinned (OpenSpec.ofChange pieceTwoSpec)

/-- ITS FALSE NEIGHBOUR: 'it returns false'. Refute it at one input. -/
def pieceTwoWrong : ChangeSpec := { name := "pieceTwo", fn := fun _ => fun
  | [d1, d2] => { results := [.lit (.bool false)], args := [d1, d2] }
  | _ => none }
def PieceTwoWrongFalsely : Prop := pieceTwoRow.holds Try.pinned (OpenSpec.ofChange pieceTwoWrong)

/- THE SECOND FORM. 'bulk': how many values and letters a reading holds, each counted each time it is reached (what is shared counts as often as it is met; a slice's spare places count too). A statement '..UptoSaid' is the law's where the arguments, and the package variables that the reading takes, are together of bulk at most 1048576: NARROWER than '..Said'. Prove '..Said' where nothing that the law and all that it calls make is longer than what came in: it says more and counts as full. Else prove '..UptoSaid'. A law counts once. -/
mutual
def uptoBulk {H : Type} : DataW H → Nat
  | .lit (.string bytes) => bytes.length + 1
  | .lit _ => 1
  | .nil => 1
  | .ptr d => uptoBulk d + 1
  | .slice elems spare => uptoBulkAll elems + uptoBulkAll spare + 1
  | .agg parts => uptoBulkAll parts + 1
  | .iface _ d => uptoBulk d + 1
  | .map entries => uptoBulkEntries entries + 1
  | .held _ => 1
def uptoBulkAll {H : Type} : List (DataW H) → Nat
  | [] => 0
  | d :: r => uptoBulk d + uptoBulkAll r
def uptoBulkEntries {H : Type} : List (Lit × DataW H) → Nat
  | [] => 0
  | x :: r => uptoBulkEntry x + uptoBulkEntries r
def uptoBulkEntry {H : Type} : Lit × DataW H → Nat
  | (.string bytes, d) => bytes.length + uptoBulk d + 1
  | (_, d) => uptoBulk d + 1
 end
def uptoSmall : (H : Type) → List (DataW H) → Bool := fun _ ds => decide (uptoBulkAll ds ≤ 1048576)
def OpenSpec.upto (s : _root_.Go.ChangeSpec) : _root_.Go.OpenSpec := { _root_.Go.OpenSpec.ofChange s with cond := some uptoSmall }

/-- 'headkeep.LineTwo', WHERE WHAT IT READS IS OF BULK AT MOST 1048576: true; the input reads as it did. -/
def lineTwoUptoRow : OpenClaim := { program := "ytihhldphpoddhaa", sum := "c4f7d0e6986388ca9299073ddab92541c8a95f07a3bd2db01d8a0b81588fca23", func := "headway/headkeep.LineTwo", spec := "lineTwo", apart := false, narrowed := true }
def LineTwoUptoSaid : Prop := lineTwoUptoRow.holds Try.pinned (OpenSpec.upto lineTwoSpec)

/-- 'headkeep.LineSums', WHERE WHAT IT READS IS OF BULK AT MOST 1048576: true; the input reads as it did. -/
def lineSumsUptoRow : OpenClaim := { program := "ytihhldphpoddhaa", sum := "c4f7d0e6986388ca9299073ddab92541c8a95f07a3bd2db01d8a0b81588fca23", func := "headway/headkeep.LineSums", spec := "lineSums", apart := false, narrowed := true }
def LineSumsUptoSaid : Prop := lineSumsUptoRow.holds Try.pinned (OpenSpec.upto lineSumsSpec)

/-- 'headkeep.LineGrows', WHERE WHAT IT READS IS OF BULK AT MOST 1048576: true; the input reads as it did. -/
def lineGrowsUptoRow : OpenClaim := { program := "ytihhldphpoddhaa", sum := "c4f7d0e6986388ca9299073ddab92541c8a95f07a3bd2db01d8a0b81588fca23", func := "headway/headkeep.LineGrows", spec := "lineGrows", apart := false, narrowed := true }
def LineGrowsUptoSaid : Prop := lineGrowsUptoRow.holds Try.pinned (OpenSpec.upto lineGrowsSpec)

/-- 'headkeep.LineWaits', WHERE WHAT IT READS IS OF BULK AT MOST 1048576: true; the input reads as it did. -/
def lineWaitsUptoRow : OpenClaim := { program := "ytihhldphpoddhaa", sum := "c4f7d0e6986388ca9299073ddab92541c8a95f07a3bd2db01d8a0b81588fca23", func := "headway/headkeep.LineWaits", spec := "lineWaits", apart := false, narrowed := true }
def LineWaitsUptoSaid : Prop := lineWaitsUptoRow.holds Try.pinned (OpenSpec.upto lineWaitsSpec)

/-- 'headkeep.LineJoins', WHERE WHAT IT READS IS OF BULK AT MOST 1048576: true; the input reads as it did. -/
def lineJoinsUptoRow : OpenClaim := { program := "ytihhldphpoddhaa", sum := "c4f7d0e6986388ca9299073ddab92541c8a95f07a3bd2db01d8a0b81588fca23", func := "headway/headkeep.LineJoins", spec := "lineJoins", apart := false, narrowed := true }
def LineJoinsUptoSaid : Prop := lineJoinsUptoRow.holds Try.pinned (OpenSpec.upto lineJoinsSpec)

/-- 'headkeep.FifoOrders', WHERE WHAT IT READS IS OF BULK AT MOST 1048576: true; the input reads as it did. -/
def fifoOrdersUptoRow : OpenClaim := { program := "ytihhldphpoddhaa", sum := "c4f7d0e6986388ca9299073ddab92541c8a95f07a3bd2db01d8a0b81588fca23", func := "headway/headkeep.FifoOrders", spec := "fifoOrders", apart := false, narrowed := true }
def FifoOrdersUptoSaid : Prop := fifoOrdersUptoRow.holds Try.pinned (OpenSpec.upto fifoOrdersSpec)

/-- 'headkeep.FifoMore', WHERE WHAT IT READS IS OF BULK AT MOST 1048576: true; the input reads as it did. -/
def fifoMoreUptoRow : OpenClaim := { program := "ytihhldphpoddhaa", sum := "c4f7d0e6986388ca9299073ddab92541c8a95f07a3bd2db01d8a0b81588fca23", func := "headway/headkeep.FifoMore", spec := "fifoMore", apart := false, narrowed := true }
def FifoMoreUptoSaid : Prop := fifoMoreUptoRow.holds Try.pinned (OpenSpec.upto fifoMoreSpec)

/-- 'headkeep.FifoShift', WHERE WHAT IT READS IS OF BULK AT MOST 1048576: true; the input reads as it did. -/
def fifoShiftUptoRow : OpenClaim := { program := "ytihhldphpoddhaa", sum := "c4f7d0e6986388ca9299073ddab92541c8a95f07a3bd2db01d8a0b81588fca23", func := "headway/headkeep.FifoShift", spec := "fifoShift", apart := false, narrowed := true }
def FifoShiftUptoSaid : Prop := fifoShiftUptoRow.holds Try.pinned (OpenSpec.upto fifoShiftSpec)

/-- 'headkeep.PrioFirst', WHERE WHAT IT READS IS OF BULK AT MOST 1048576: true; the input reads as it did. -/
def prioFirstUptoRow : OpenClaim := { program := "ytihhldphpoddhaa", sum := "c4f7d0e6986388ca9299073ddab92541c8a95f07a3bd2db01d8a0b81588fca23", func := "headway/headkeep.PrioFirst", spec := "prioFirst", apart := false, narrowed := true }
def PrioFirstUptoSaid : Prop := prioFirstUptoRow.holds Try.pinned (OpenSpec.upto prioFirstSpec)

/-- 'headkeep.BucketFits', WHERE WHAT IT READS IS OF BULK AT MOST 1048576: true; the input reads as it did. -/
def bucketFitsUptoRow : OpenClaim := { program := "ytihhldphpoddhaa", sum := "c4f7d0e6986388ca9299073ddab92541c8a95f07a3bd2db01d8a0b81588fca23", func := "headway/headkeep.BucketFits", spec := "bucketFits", apart := false, narrowed := true }
def BucketFitsUptoSaid : Prop := bucketFitsUptoRow.holds Try.pinned (OpenSpec.upto bucketFitsSpec)

/-- 'headkeep.BucketAll', WHERE WHAT IT READS IS OF BULK AT MOST 1048576: true; the input reads as it did. -/
def bucketAllUptoRow : OpenClaim := { program := "ytihhldphpoddhaa", sum := "c4f7d0e6986388ca9299073ddab92541c8a95f07a3bd2db01d8a0b81588fca23", func := "headway/headkeep.BucketAll", spec := "bucketAll", apart := false, narrowed := true }
def BucketAllUptoSaid : Prop := bucketAllUptoRow.holds Try.pinned (OpenSpec.upto bucketAllSpec)

/-- 'headkeep.PieceTwo', WHERE WHAT IT READS IS OF BULK AT MOST 1048576: true; the input reads as it did. -/
def pieceTwoUptoRow : OpenClaim := { program := "ytihhldphpoddhaa", sum := "c4f7d0e6986388ca9299073ddab92541c8a95f07a3bd2db01d8a0b81588fca23", func := "headway/headkeep.PieceTwo", spec := "pieceTwo", apart := false, narrowed := true }
def PieceTwoUptoSaid : Prop := pieceTwoUptoRow.holds Try.pinned (OpenSpec.upto pieceTwoSpec)

end Rows
end Go.Proofs.Ytihhldphpoddhaa
