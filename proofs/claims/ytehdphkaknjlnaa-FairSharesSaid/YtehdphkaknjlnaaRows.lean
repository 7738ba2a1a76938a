/-
  No cell of these rows narrows 'for every input' (looked for: loops, veiled, ifaces, maps, wideKeys, modest, calm, conditions, laid).
  DERIVED. THE GIVEN ROWS OF THIS SEAT. 11 by the template 'for every input the law returns true; each argument reads behind the call as it read before'; 0 by the template 'total and deterministic' (their statements: YtehdphkaknjlnaaTotals.lean).
  GIVEN WITH THE SEED: the statements are not yours to turn. If you find one false, say at which input.
  Laid BY PROGRAM, IN A SANDBOX (cutbox-rows.mjs): the forced cells as the released guide's own fill.sh prints them over the translation eb43ac2f5f677413… (all of the seat's roots in one cut). By AI agents, Wed Nov 11 2026. No macro, syntax, notation, axiom, sorry.
-/
import Derived.Test.YtehdphkaknjlnaaChecked
import GoSem.Claim
import GoSem.ClaimJoined
import GoSem.ClaimMapViews
import Derived.JoinedTies
import Derived.KernelRfl
namespace Go.Proofs.Ytehdphkaknjlnaa
/- THE CELL 'sum', in the pinned program and in every row, IS THE sha256 OF THE DUMP (.gsa) THAT YtehdphkaknjlnaaProg.lean LOADS. Nothing in Lean hashes anything: it is a label: what it is worth is what the hold of that sum in a sandbox is worth. -/
noncomputable def Try.pinned : Pinned := { name := "ytehdphkaknjlnaa", sum := "eb43ac2f5f677413a1b5354a836f86820a17b4181453737e8f5d9d9e01f8420e", checked := Try.checked }
namespace Rows
def none {H : Type} : Left H := { results := [], args := [] }

/-- 'headkeep.WorldBytes': WHATEVER THE INPUT: true; the input reads as it did. -/
def worldBytesSpec : ChangeSpec := { name := "worldBytes", fn := fun _ => fun
  | [d1, d2, d3, d4] => { results := [.lit (.bool true)], args := [d1, d2, d3, d4] }
  | _ => none }
def worldBytesRow : OpenClaim := { program := "ytehdphkaknjlnaa", sum := "eb43ac2f5f677413a1b5354a836f86820a17b4181453737e8f5d9d9e01f8420e", func := "headway/headkeep.WorldBytes", spec := "worldBytes", apart := false }
def WorldBytesSaid : Prop := worldBytesRow.holds Try.pinned (OpenSpec.ofChange worldBytesSpec)

/-- ITS FALSE NEIGHBOUR: 'it returns false'. Refute it at one input. -/
def worldBytesWrong : ChangeSpec := { name := "worldBytes", fn := fun _ => fun
  | [d1, d2, d3, d4] => { results := [.lit (.bool false)], args := [d1, d2, d3, d4] }
  | _ => none }
def WorldBytesWrongFalsely : Prop := worldBytesRow.holds Try.pinned (OpenSpec.ofChange worldBytesWrong)

/-- 'headkeep.WorldCalm': WHATEVER THE INPUT: true; the input reads as it did. -/
def worldCalmSpec : ChangeSpec := { name := "worldCalm", fn := fun _ => fun
  | [d1, d2, d3, d4] => { results := [.lit (.bool true)], args := [d1, d2, d3, d4] }
  | _ => none }
def worldCalmRow : OpenClaim := { program := "ytehdphkaknjlnaa", sum := "eb43ac2f5f677413a1b5354a836f86820a17b4181453737e8f5d9d9e01f8420e", func := "headway/headkeep.WorldCalm", spec := "worldCalm", apart := false }
def WorldCalmSaid : Prop := worldCalmRow.holds Try.pinned (OpenSpec.ofChange worldCalmSpec)

/-- ITS FALSE NEIGHBOUR: 'it returns false'. Refute it at one input. -/
def worldCalmWrong : ChangeSpec := { name := "worldCalm", fn := fun _ => fun
  | [d1, d2, d3, d4] => { results := [.lit (.bool false)], args := [d1, d2, d3, d4] }
  | _ => none }
def WorldCalmWrongFalsely : Prop := worldCalmRow.holds Try.pinned (OpenSpec.ofChange worldCalmWrong)

/-- 'headkeep.WorldOwn': WHATEVER THE INPUT: true; the input reads as it did. -/
def worldOwnSpec : ChangeSpec := { name := "worldOwn", fn := fun _ => fun
  | [d1, d2, d3, d4] => { results := [.lit (.bool true)], args := [d1, d2, d3, d4] }
  | _ => none }
def worldOwnRow : OpenClaim := { program := "ytehdphkaknjlnaa", sum := "eb43ac2f5f677413a1b5354a836f86820a17b4181453737e8f5d9d9e01f8420e", func := "headway/headkeep.WorldOwn", spec := "worldOwn", apart := false }
def WorldOwnSaid : Prop := worldOwnRow.holds Try.pinned (OpenSpec.ofChange worldOwnSpec)

/-- ITS FALSE NEIGHBOUR: 'it returns false'. Refute it at one input. -/
def worldOwnWrong : ChangeSpec := { name := "worldOwn", fn := fun _ => fun
  | [d1, d2, d3, d4] => { results := [.lit (.bool false)], args := [d1, d2, d3, d4] }
  | _ => none }
def WorldOwnWrongFalsely : Prop := worldOwnRow.holds Try.pinned (OpenSpec.ofChange worldOwnWrong)

/-- 'headkeep.WorldTurns': WHATEVER THE INPUT: true; the input reads as it did. -/
def worldTurnsSpec : ChangeSpec := { name := "worldTurns", fn := fun _ => fun
  | [d1, d2, d3] => { results := [.lit (.bool true)], args := [d1, d2, d3] }
  | _ => none }
def worldTurnsRow : OpenClaim := { program := "ytehdphkaknjlnaa", sum := "eb43ac2f5f677413a1b5354a836f86820a17b4181453737e8f5d9d9e01f8420e", func := "headway/headkeep.WorldTurns", spec := "worldTurns", apart := false }
def WorldTurnsSaid : Prop := worldTurnsRow.holds Try.pinned (OpenSpec.ofChange worldTurnsSpec)

/-- ITS FALSE NEIGHBOUR: 'it returns false'. Refute it at one input. -/
def worldTurnsWrong : ChangeSpec := { name := "worldTurns", fn := fun _ => fun
  | [d1, d2, d3] => { results := [.lit (.bool false)], args := [d1, d2, d3] }
  | _ => none }
def WorldTurnsWrongFalsely : Prop := worldTurnsRow.holds Try.pinned (OpenSpec.ofChange worldTurnsWrong)

/-- 'headkeep.WorldShares': WHATEVER THE INPUT: true; the input reads as it did. -/
def worldSharesSpec : ChangeSpec := { name := "worldShares", fn := fun _ => fun
  | [d1, d2, d3] => { results := [.lit (.bool true)], args := [d1, d2, d3] }
  | _ => none }
def worldSharesRow : OpenClaim := { program := "ytehdphkaknjlnaa", sum := "eb43ac2f5f677413a1b5354a836f86820a17b4181453737e8f5d9d9e01f8420e", func := "headway/headkeep.WorldShares", spec := "worldShares", apart := false }
def WorldSharesSaid : Prop := worldSharesRow.holds Try.pinned (OpenSpec.ofChange worldSharesSpec)

/-- ITS FALSE NEIGHBOUR: 'it returns false'. Refute it at one input. -/
def worldSharesWrong : ChangeSpec := { name := "worldShares", fn := fun _ => fun
  | [d1, d2, d3] => { results := [.lit (.bool false)], args := [d1, d2, d3] }
  | _ => none }
def WorldSharesWrongFalsely : Prop := worldSharesRow.holds Try.pinned (OpenSpec.ofChange worldSharesWrong)

/-- 'headkeep.FairShares': WHATEVER THE INPUT: true; the input reads as it did. -/
def fairSharesSpec : ChangeSpec := { name := "fairShares", fn := fun _ => fun
  | [d1, d2, d3, d4] => { results := [.lit (.bool true)], args := [d1, d2, d3, d4] }
  | _ => none }
def fairSharesRow : OpenClaim := { program := "ytehdphkaknjlnaa", sum := "eb43ac2f5f677413a1b5354a836f86820a17b4181453737e8f5d9d9e01f8420e", func := "headway/headkeep.FairShares", spec := "fairShares", apart := false }
def FairSharesSaid : Prop := fairSharesRow.holds Try.pinned (OpenSpec.ofChange fairSharesSpec)

/-- ITS FALSE NEIGHBOUR: 'it returns false'. Refute it at one input. -/
def fairSharesWrong : ChangeSpec := { name := "fairShares", fn := fun _ => fun
  | [d1, d2, d3, d4] => { results := [.lit (.bool false)], args := [d1, d2, d3, d4] }
  | _ => none }
def FairSharesWrongFalsely : Prop := fairSharesRow.holds Try.pinned (OpenSpec.ofChange fairSharesWrong)

/-- 'headkeep.FairOne': WHATEVER THE INPUT: true; the input reads as it did. -/
def fairOneSpec : ChangeSpec := { name := "fairOne", fn := fun _ => fun
  | [d1, d2] => { results := [.lit (.bool true)], args := [d1, d2] }
  | _ => none }
def fairOneRow : OpenClaim := { program := "ytehdphkaknjlnaa", sum := "eb43ac2f5f677413a1b5354a836f86820a17b4181453737e8f5d9d9e01f8420e", func := "headway/headkeep.FairOne", spec := "fairOne", apart := false }
def FairOneSaid : Prop := fairOneRow.holds Try.pinned (OpenSpec.ofChange fairOneSpec)

/-- ITS FALSE NEIGHBOUR: 'it returns false'. Refute it at one input. -/
def fairOneWrong : ChangeSpec := { name := "fairOne", fn := fun _ => fun
  | [d1, d2] => { results := [.lit (.bool false)], args := [d1, d2] }
  | _ => none }
def FairOneWrongFalsely : Prop := fairOneRow.holds Try.pinned (OpenSpec.ofChange fairOneWrong)

/-- 'headkeep.FairAll': WHATEVER THE INPUT: true; the input reads as it did. -/
def fairAllSpec : ChangeSpec := { name := "fairAll", fn := fun _ => fun
  | [d1, d2] => { results := [.lit (.bool true)], args := [d1, d2] }
  | _ => none }
def fairAllRow : OpenClaim := { program := "ytehdphkaknjlnaa", sum := "eb43ac2f5f677413a1b5354a836f86820a17b4181453737e8f5d9d9e01f8420e", func := "headway/headkeep.FairAll", spec := "fairAll", apart := false }
def FairAllSaid : Prop := fairAllRow.holds Try.pinned (OpenSpec.ofChange fairAllSpec)

/-- ITS FALSE NEIGHBOUR: 'it returns false'. Refute it at one input. -/
def fairAllWrong : ChangeSpec := { name := "fairAll", fn := fun _ => fun
  | [d1, d2] => { results := [.lit (.bool false)], args := [d1, d2] }
  | _ => none }
def FairAllWrongFalsely : Prop := fairAllRow.holds Try.pinned (OpenSpec.ofChange fairAllWrong)

/-- 'headkeep.PieceOnce': WHATEVER THE INPUT: true; the input reads as it did. -/
def pieceOnceSpec : ChangeSpec := { name := "pieceOnce", fn := fun _ => fun
  | [d1, d2, d3] => { results := [.lit (.bool true)], args := [d1, d2, d3] }
  | _ => none }
def pieceOnceRow : OpenClaim := { program := "ytehdphkaknjlnaa", sum := "eb43ac2f5f677413a1b5354a836f86820a17b4181453737e8f5d9d9e01f8420e", func := "headway/headkeep.PieceOnce", spec := "pieceOnce", apart := false }
def PieceOnceSaid : Prop := pieceOnceRow.holds Try.pinned (OpenSpec.ofChange pieceOnceSpec)

/-- ITS FALSE NEIGHBOUR: 'it returns false'. Refute it at one input. -/
def pieceOnceWrong : ChangeSpec := { name := "pieceOnce", fn := fun _ => fun
  | [d1, d2, d3] => { results := [.lit (.bool false)], args := [d1, d2, d3] }
  | _ => none }
def PieceOnceWrongFalsely : Prop := pieceOnceRow.holds Try.pinned (OpenSpec.ofChange pieceOnceWrong)

/-- 'headkeep.PieceAll': WHATEVER THE INPUT: true; the input reads as it did. -/
def pieceAllSpec : ChangeSpec := { name := "pieceAll", fn := fun _ => fun
  | [d1, d2, d3] => { results := [.lit (.bool true)], args := [d1, d2, d3] }
  | _ => none }
def pieceAllRow : OpenClaim := { program := "ytehdphkaknjlnaa", sum := "eb43ac2f5f677413a1b5354a836f86820a17b4181453737e8f5d9d9e01f8420e", func := "headway/headkeep.PieceAll", spec := "pieceAll", apart := false }
def PieceAllSaid : Prop := pieceAllRow.holds Try.pinned (OpenSpec.ofChange pieceAllSpec)

/-- ITS FALSE NEIGHBOUR: 'it returns false'. Refute it at one input. -/
def pieceAllWrong : ChangeSpec := { name := "pieceAll", fn := fun _ => fun
  | [d1, d2, d3] => { results := [.lit (.bool false)], args := [d1, d2, d3] }
  | _ => none }
def PieceAllWrongFalsely : Prop := pieceAllRow.holds Try.pinned (OpenSpec.ofChange pieceAllWrong)

/-- 'headtop.TopSnapshot': WHATEVER THE INPUT: true; the input reads as it did. -/
def topSnapshotSpec : ChangeSpec := { name := "topSnapshot", fn := fun _ => fun
  | [d1, d2, d3, d4, d5] => { results := [.lit (.bool true)], args := [d1, d2, d3, d4, d5] }
  | _ => none }
def topSnapshotRow : OpenClaim := { program := "ytehdphkaknjlnaa", sum := "eb43ac2f5f677413a1b5354a836f86820a17b4181453737e8f5d9d9e01f8420e", func := "headway/headtop.TopSnapshot", spec := "topSnapshot", apart := false }
def TopSnapshotSaid : Prop := topSnapshotRow.holds Try.pinned (OpenSpec.ofChange topSnapshotSpec)

/-- ITS FALSE NEIGHBOUR: 'it returns false'. Refute it at one input. -/
def topSnapshotWrong : ChangeSpec := { name := "topSnapshot", fn := fun _ => fun
  | [d1, d2, d3, d4, d5] => { results := [.lit (.bool false)], args := [d1, d2, d3, d4, d5] }
  | _ => none }
def TopSnapshotWrongFalsely : Prop := topSnapshotRow.holds Try.pinned (OpenSpec.ofChange topSnapshotWrong)

/- THE SECOND FORM. 'bulk': how many values and letters a reading holds, each counted each time it is reached (what is shared counts as often as it is met; a slice's spare places count too). A statement '..UptoSaid' is the law's where the arguments, and the package variables that the reading takes, are together of bulk at most 1048576: NARROWER than '..Said'. Prove '..Said' where nothing that the law and all that it calls make is longer than what came in: it says more and counts as full. Else prove '..UptoSaid'. A law counts once. -/
mutual
def uptoBulk {H : Type} : DataW H → Nat
  | .lit (.string bytes) => bytes.length + 1
  | .lit _ => 1
  | .nil => 1
  | .ptr d => uptoBulk d + 1
  | .slice elems spare => uptoBulkAll elems + uptoBulkAll spare + 1
  | .agg parts => uptoBulkAll parts + 1
  | .iface _ d => uptoBulk d + 1
  | .map entries => uptoBulkEntries entries + 1
  | .held _ => 1
def uptoBulkAll {H : Type} : List (DataW H) → Nat
  | [] => 0
  | d :: r => uptoBulk d + uptoBulkAll r
def uptoBulkEntries {H : Type} : List (Lit × DataW H) → Nat
  | [] => 0
  | x :: r => uptoBulkEntry x + uptoBulkEntries r
def uptoBulkEntry {H : Type} : Lit × DataW H → Nat
  | (.string bytes, d) => bytes.length + uptoBulk d + 1
  | (_, d) => uptoBulk d + 1
 end
def uptoSmall : (H : Type) → List (DataW H) → Bool := fun _ ds => decide (uptoBulkAll ds ≤ 1048576)
def OpenSpec.upto (s : _root_.Go.ChangeSpec) : _root_.Go.OpenSpec := { _root_.Go.OpenSpec.ofChange s with cond := some uptoSmall }

/-- 'headkeep.WorldBytes', WHERE WHAT IT READS IS OF BULK AT MOST 1048576: true; the input reads as it did. -/
def worldBytesUptoRow : OpenClaim := { program := "ytehdphkaknjlnaa", sum := "eb43ac2f5f677413a1b5354a836f86820a17b4181453737e8f5d9d9e01f8420e", func := "headway/headkeep.WorldBytes", spec := "worldBytes", apart := false, narrowed := true }
def WorldBytesUptoSaid : Prop := worldBytesUptoRow.holds Try.pinned (OpenSpec.upto worldBytesSpec)

/-- 'headkeep.WorldCalm', WHERE WHAT IT READS IS OF BULK AT MOST 1048576: true; the input reads as it did. -/
def worldCalmUptoRow : OpenClaim := { program := "ytehdphkaknjlnaa", sum := "eb43ac2f5f677413a1b5354a836f86820a17b4181453737e8f5d9d9e01f8420e", func := "headway/headkeep.WorldCalm", spec := "worldCalm", apart := false, narrowed := true }
def WorldCalmUptoSaid : Prop := worldCalmUptoRow.holds Try.pinned (OpenSpec.upto worldCalmSpec)

/-- 'headkeep.WorldOwn', WHERE WHAT IT READS IS OF BULK AT MOST 1048576: true; the input reads as it did. -/
def worldOwnUptoRow : OpenClaim := { program := "ytehdphkaknjlnaa", sum := "eb43ac2f5f677413a1b5354a836f86820a17b4181453737e8f5d9d9e01f8420e", func := "headway/headkeep.WorldOwn", spec := "worldOwn", apart := false, narrowed := true }
def WorldOwnUptoSaid : Prop := worldOwnUptoRow.holds Try.pinned (OpenSpec.upto worldOwnSpec)

/-- 'headkeep.WorldTurns', WHERE WHAT IT READS IS OF BULK AT MOST 1048576: true; the input reads as it did. -/
def worldTurnsUptoRow : OpenClaim := { program := "ytehdphkaknjlnaa", sum := "eb43ac2f5f677413a1b5354a836f86820a17b4181453737e8f5d9d9e01f8420e", func := "headway/headkeep.WorldTurns", spec := "worldTurns", apart := false, narrowed := true }
def WorldTurnsUptoSaid : Prop := worldTurnsUptoRow.holds Try.pinned (OpenSpec.upto worldTurnsSpec)

/-- 'headkeep.WorldShares', WHERE WHAT IT READS IS OF BULK AT MOST 1048576: true; the input reads as it did. -/
def worldSharesUptoRow : OpenClaim := { program := "ytehdphkaknjlnaa", sum := "eb43ac2f5f677413a1b5354a836f86820a17b4181453737e8f5d9d9e01f8420e", func := "headway/headkeep.WorldShares", spec := "worldShares", apart := false, narrowed := true }
def WorldSharesUptoSaid : Prop := worldSharesUptoRow.holds Try.pinned (OpenSpec.upto worldSharesSpec)

/-- 'headkeep.FairShares', WHERE WHAT IT READS IS OF BULK AT MOST 1048576: true; the input reads as it did. -/
def fairSharesUptoRow : OpenClaim := { program := "ytehdphkaknjlnaa", sum := "eb43ac2f5f677413a1b5354a836f86820a17b4181453737e8f5d9d9e01f8420e", func := "headway/headkeep.FairShares", spec := "fairShares", apart := false, narrowed := true }
def FairSharesUptoSaid : Prop := fairSharesUptoRow.holds Try.pinned (OpenSpec.upto fairSharesSpec)

/-- 'headkeep.FairOne', WHERE WHAT IT READS IS OF BULK AT MOST 1048576: true; the input reads as it did. -/
def fairOneUptoRow : OpenClaim := { program := "ytehdphkaknjlnaa", sum := "eb43ac2f5f677413a1b5354a836f86820a17b4181453737e8f5d9d9e01f8420e", func := "headway/headkeep.FairOne", spec := "fairOne", apart := false, narrowed := true }
def FairOneUptoSaid : Prop := fairOneUptoRow.holds Try.pinned (OpenSpec.upto fairOneSpec)

/-- 'headkeep.FairAll', WHERE WHAT IT READS IS OF BULK AT MOST 1048576: true; the input reads as it did. -/
def fairAllUptoRow : OpenClaim := { program := "ytehdphkaknjlnaa", sum := "eb43ac2f5f677413a1b5354a836f86820a17b4181453737e8f5d9d9e01f8420e", func := "headway/headkeep.FairAll", spec := "fairAll", apart := false, narrowed := true }
def FairAllUptoSaid : Prop := fairAllUptoRow.holds Try.pinned (OpenSpec.upto fairAllSpec)

/-- 'headkeep.PieceOnce', WHERE WHAT IT READS IS OF BULK AT MOST 1048576: true; the input reads as it did. -/
def pieceOnceUptoRow : OpenClaim := { program := "ytehdphkaknjlnaa", sum := "eb43ac2f5f677413a1b5354a836f86820a17b4181453737e8f5d9d9e01f8420e", func := "headway/headkeep.PieceOnce", spec := "pieceOnce", apart := false, narrowed := true }
def PieceOnceUptoSaid : Prop := pieceOnceUptoRow.holds Try.pinned (OpenSpec.upto pieceOnceSpec)

/-- 'headkeep.PieceAll', WHERE WHAT IT READS IS OF BULK AT MOST 1048576: true; the input reads as it did. -/
def pieceAllUptoRow : OpenClaim := { program := "ytehdphkaknjlnaa", sum := "eb43ac2f5f677413a1b5354a836f86820a17b4181453737e8f5d9d9e01f8420e", func := "headway/headkeep.PieceAll", spec := "pieceAll", apart := false, narrowed := true }
def PieceAllUptoSaid : Prop := pieceAllUptoRow.holds Try.pinned (OpenSpec.upto pieceAllSpec)

/-- 'headtop.TopSnapshot', WHERE WHAT IT READS IS OF BULK AT MOST 1048576: true; the input reads as it did. -/
def topSnapshotUptoRow : OpenClaim := { program := "ytehdphkaknjlnaa", sum := "eb43ac2f5f677413a1b5354a836f86820a17b4181453737e8f5d9d9e01f8420e", func := "headway/headtop.TopSnapshot", spec := "topSnapshot", apart := false, narrowed := true }
def TopSnapshotUptoSaid : Prop := topSnapshotUptoRow.holds Try.pinned (OpenSpec.upto topSnapshotSpec)

end Rows
end Go.Proofs.Ytehdphkaknjlnaa
