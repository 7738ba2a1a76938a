/-
  No cell of these rows narrows 'for every input' (looked for: loops, veiled, ifaces, maps, wideKeys, modest, calm, conditions, laid).
  DERIVED. THE GIVEN ROWS OF THIS SEAT. 10 by the template 'for every input the law returns true; each argument reads behind the call as it read before'; 0 by the template 'total and deterministic' (their statements: YtigekbidbeilnaaTotals.lean).
  GIVEN WITH THE SEED: the statements are not yours to turn. If you find one false, say at which input.
  Laid BY PROGRAM, IN A SANDBOX (cutbox-rows.mjs): the forced cells as the released guide's own fill.sh prints them over the translation a74ea63eb2a430d4… (all of the seat's roots in one cut). By AI agents, Wed Nov 11 2026. No macro, syntax, notation, axiom, sorry.
-/
import Derived.Test.YtigekbidbeilnaaChecked
import GoSem.Claim
import GoSem.ClaimJoined
import GoSem.ClaimMapViews
import Derived.JoinedTies
import Derived.KernelRfl
namespace Go.Proofs.Ytigekbidbeilnaa
/- THE CELL 'sum', in the pinned program and in every row, IS THE sha256 OF THE DUMP (.gsa) THAT YtigekbidbeilnaaProg.lean LOADS. Nothing in Lean hashes anything: it is a label: what it is worth is what the hold of that sum in a sandbox is worth. -/
noncomputable def Try.pinned : Pinned := { name := "ytigekbidbeilnaa", sum := "a74ea63eb2a430d465abf7d9e3e529acb726fb1401c93cb4fc08341a9ba0f10a", checked := Try.checked }
namespace Rows
def none {H : Type} : Left H := { results := [], args := [] }

/-- 'headkeep.EdfNames': WHATEVER THE INPUT: true; the input reads as it did. -/
def edfNamesSpec : ChangeSpec := { name := "edfNames", fn := fun _ => fun
  | [d1, d2, d3] => { results := [.lit (.bool true)], args := [d1, d2, d3] }
  | _ => none }
def edfNamesRow : OpenClaim := { program := "ytigekbidbeilnaa", sum := "a74ea63eb2a430d465abf7d9e3e529acb726fb1401c93cb4fc08341a9ba0f10a", func := "headway/headkeep.EdfNames", spec := "edfNames", apart := false }
def EdfNamesSaid : Prop := edfNamesRow.holds Try.pinned (OpenSpec.ofChange edfNamesSpec)

/-- ITS FALSE NEIGHBOUR: 'it returns false'. Refute it at one input. -/
def edfNamesWrong : ChangeSpec := { name := "edfNames", fn := fun _ => fun
  | [d1, d2, d3] => { results := [.lit (.bool false)], args := [d1, d2, d3] }
  | _ => none }
def EdfNamesWrongFalsely : Prop := edfNamesRow.holds Try.pinned (OpenSpec.ofChange edfNamesWrong)

/-- 'headkeep.EdfEasier': WHATEVER THE INPUT: true; the input reads as it did. -/
def edfEasierSpec : ChangeSpec := { name := "edfEasier", fn := fun _ => fun
  | [d1, d2, d3, d4, d5] => { results := [.lit (.bool true)], args := [d1, d2, d3, d4, d5] }
  | _ => none }
def edfEasierRow : OpenClaim := { program := "ytigekbidbeilnaa", sum := "a74ea63eb2a430d465abf7d9e3e529acb726fb1401c93cb4fc08341a9ba0f10a", func := "headway/headkeep.EdfEasier", spec := "edfEasier", apart := false }
def EdfEasierSaid : Prop := edfEasierRow.holds Try.pinned (OpenSpec.ofChange edfEasierSpec)

/-- ITS FALSE NEIGHBOUR: 'it returns false'. Refute it at one input. -/
def edfEasierWrong : ChangeSpec := { name := "edfEasier", fn := fun _ => fun
  | [d1, d2, d3, d4, d5] => { results := [.lit (.bool false)], args := [d1, d2, d3, d4, d5] }
  | _ => none }
def EdfEasierWrongFalsely : Prop := edfEasierRow.holds Try.pinned (OpenSpec.ofChange edfEasierWrong)

/-- 'headkeep.EdfRuns': WHATEVER THE INPUT: true; the input reads as it did. -/
def edfRunsSpec : ChangeSpec := { name := "edfRuns", fn := fun _ => fun
  | [d] => { results := [.lit (.bool true)], args := [d] }
  | _ => none }
def edfRunsRow : OpenClaim := { program := "ytigekbidbeilnaa", sum := "a74ea63eb2a430d465abf7d9e3e529acb726fb1401c93cb4fc08341a9ba0f10a", func := "headway/headkeep.EdfRuns", spec := "edfRuns", apart := false }
def EdfRunsSaid : Prop := edfRunsRow.holds Try.pinned (OpenSpec.ofChange edfRunsSpec)

/-- ITS FALSE NEIGHBOUR: 'it returns false'. Refute it at one input. -/
def edfRunsWrong : ChangeSpec := { name := "edfRuns", fn := fun _ => fun
  | [d] => { results := [.lit (.bool false)], args := [d] }
  | _ => none }
def EdfRunsWrongFalsely : Prop := edfRunsRow.holds Try.pinned (OpenSpec.ofChange edfRunsWrong)

/-- 'headkeep.EdfBest': WHATEVER THE INPUT: true; the input reads as it did. -/
def edfBestSpec : ChangeSpec := { name := "edfBest", fn := fun _ => fun
  | [d1, d2] => { results := [.lit (.bool true)], args := [d1, d2] }
  | _ => none }
def edfBestRow : OpenClaim := { program := "ytigekbidbeilnaa", sum := "a74ea63eb2a430d465abf7d9e3e529acb726fb1401c93cb4fc08341a9ba0f10a", func := "headway/headkeep.EdfBest", spec := "edfBest", unfollowed := true, recurses := true, apart := false }
def EdfBestSaid : Prop := edfBestRow.holds Try.pinned (OpenSpec.ofChange edfBestSpec)

/-- ITS FALSE NEIGHBOUR: 'it returns false'. Refute it at one input. -/
def edfBestWrong : ChangeSpec := { name := "edfBest", fn := fun _ => fun
  | [d1, d2] => { results := [.lit (.bool false)], args := [d1, d2] }
  | _ => none }
def EdfBestWrongFalsely : Prop := edfBestRow.holds Try.pinned (OpenSpec.ofChange edfBestWrong)

/-- 'headkeep.EdfDemand': WHATEVER THE INPUT: true; the input reads as it did. -/
def edfDemandSpec : ChangeSpec := { name := "edfDemand", fn := fun _ => fun
  | [d] => { results := [.lit (.bool true)], args := [d] }
  | _ => none }
def edfDemandRow : OpenClaim := { program := "ytigekbidbeilnaa", sum := "a74ea63eb2a430d465abf7d9e3e529acb726fb1401c93cb4fc08341a9ba0f10a", func := "headway/headkeep.EdfDemand", spec := "edfDemand", apart := false }
def EdfDemandSaid : Prop := edfDemandRow.holds Try.pinned (OpenSpec.ofChange edfDemandSpec)

/-- ITS FALSE NEIGHBOUR: 'it returns false'. Refute it at one input. -/
def edfDemandWrong : ChangeSpec := { name := "edfDemand", fn := fun _ => fun
  | [d] => { results := [.lit (.bool false)], args := [d] }
  | _ => none }
def EdfDemandWrongFalsely : Prop := edfDemandRow.holds Try.pinned (OpenSpec.ofChange edfDemandWrong)

/-- 'headkeep.RanksFirst': WHATEVER THE INPUT: true; the input reads as it did. -/
def ranksFirstSpec : ChangeSpec := { name := "ranksFirst", fn := fun _ => fun
  | [d1, d2] => { results := [.lit (.bool true)], args := [d1, d2] }
  | _ => none }
def ranksFirstRow : OpenClaim := { program := "ytigekbidbeilnaa", sum := "a74ea63eb2a430d465abf7d9e3e529acb726fb1401c93cb4fc08341a9ba0f10a", func := "headway/headkeep.RanksFirst", spec := "ranksFirst", apart := false }
def RanksFirstSaid : Prop := ranksFirstRow.holds Try.pinned (OpenSpec.ofChange ranksFirstSpec)

/-- ITS FALSE NEIGHBOUR: 'it returns false'. Refute it at one input. -/
def ranksFirstWrong : ChangeSpec := { name := "ranksFirst", fn := fun _ => fun
  | [d1, d2] => { results := [.lit (.bool false)], args := [d1, d2] }
  | _ => none }
def RanksFirstWrongFalsely : Prop := ranksFirstRow.holds Try.pinned (OpenSpec.ofChange ranksFirstWrong)

/-- 'headkeep.RanksLess': WHATEVER THE INPUT: true; the input reads as it did. -/
def ranksLessSpec : ChangeSpec := { name := "ranksLess", fn := fun _ => fun
  | [d1, d2, d3] => { results := [.lit (.bool true)], args := [d1, d2, d3] }
  | _ => none }
def ranksLessRow : OpenClaim := { program := "ytigekbidbeilnaa", sum := "a74ea63eb2a430d465abf7d9e3e529acb726fb1401c93cb4fc08341a9ba0f10a", func := "headway/headkeep.RanksLess", spec := "ranksLess", apart := false }
def RanksLessSaid : Prop := ranksLessRow.holds Try.pinned (OpenSpec.ofChange ranksLessSpec)

/-- ITS FALSE NEIGHBOUR: 'it returns false'. Refute it at one input. -/
def ranksLessWrong : ChangeSpec := { name := "ranksLess", fn := fun _ => fun
  | [d1, d2, d3] => { results := [.lit (.bool false)], args := [d1, d2, d3] }
  | _ => none }
def RanksLessWrongFalsely : Prop := ranksLessRow.holds Try.pinned (OpenSpec.ofChange ranksLessWrong)

/-- 'headkeep.RanksCritical': WHATEVER THE INPUT: true; the input reads as it did. -/
def ranksCriticalSpec : ChangeSpec := { name := "ranksCritical", fn := fun _ => fun
  | [d1, d2] => { results := [.lit (.bool true)], args := [d1, d2] }
  | _ => none }
def ranksCriticalRow : OpenClaim := { program := "ytigekbidbeilnaa", sum := "a74ea63eb2a430d465abf7d9e3e529acb726fb1401c93cb4fc08341a9ba0f10a", func := "headway/headkeep.RanksCritical", spec := "ranksCritical", apart := false }
def RanksCriticalSaid : Prop := ranksCriticalRow.holds Try.pinned (OpenSpec.ofChange ranksCriticalSpec)

/-- ITS FALSE NEIGHBOUR: 'it returns false'. Refute it at one input. -/
def ranksCriticalWrong : ChangeSpec := { name := "ranksCritical", fn := fun _ => fun
  | [d1, d2] => { results := [.lit (.bool false)], args := [d1, d2] }
  | _ => none }
def RanksCriticalWrongFalsely : Prop := ranksCriticalRow.holds Try.pinned (OpenSpec.ofChange ranksCriticalWrong)

/-- 'headkeep.RanksMeet': WHATEVER THE INPUT: true; the input reads as it did. -/
def ranksMeetSpec : ChangeSpec := { name := "ranksMeet", fn := fun _ => fun
  | [d] => { results := [.lit (.bool true)], args := [d] }
  | _ => none }
def ranksMeetRow : OpenClaim := { program := "ytigekbidbeilnaa", sum := "a74ea63eb2a430d465abf7d9e3e529acb726fb1401c93cb4fc08341a9ba0f10a", func := "headway/headkeep.RanksMeet", spec := "ranksMeet", apart := false }
def RanksMeetSaid : Prop := ranksMeetRow.holds Try.pinned (OpenSpec.ofChange ranksMeetSpec)

/-- ITS FALSE NEIGHBOUR: 'it returns false'. Refute it at one input. -/
def ranksMeetWrong : ChangeSpec := { name := "ranksMeet", fn := fun _ => fun
  | [d] => { results := [.lit (.bool false)], args := [d] }
  | _ => none }
def RanksMeetWrongFalsely : Prop := ranksMeetRow.holds Try.pinned (OpenSpec.ofChange ranksMeetWrong)

/-- 'headkeep.RanksOrder': WHATEVER THE INPUT: true; the input reads as it did. -/
def ranksOrderSpec : ChangeSpec := { name := "ranksOrder", fn := fun _ => fun
  | [d] => { results := [.lit (.bool true)], args := [d] }
  | _ => none }
def ranksOrderRow : OpenClaim := { program := "ytigekbidbeilnaa", sum := "a74ea63eb2a430d465abf7d9e3e529acb726fb1401c93cb4fc08341a9ba0f10a", func := "headway/headkeep.RanksOrder", spec := "ranksOrder", unfollowed := true, recurses := true, apart := false }
def RanksOrderSaid : Prop := ranksOrderRow.holds Try.pinned (OpenSpec.ofChange ranksOrderSpec)

/-- ITS FALSE NEIGHBOUR: 'it returns false'. Refute it at one input. -/
def ranksOrderWrong : ChangeSpec := { name := "ranksOrder", fn := fun _ => fun
  | [d] => { results := [.lit (.bool false)], args := [d] }
  | _ => none }
def RanksOrderWrongFalsely : Prop := ranksOrderRow.holds Try.pinned (OpenSpec.ofChange ranksOrderWrong)

/- THE SECOND FORM. 'bulk': how many values and letters a reading holds, each counted each time it is reached (what is shared counts as often as it is met; a slice's spare places count too). A statement '..UptoSaid' is the law's where the arguments, and the package variables that the reading takes, are together of bulk at most 1048576: NARROWER than '..Said'. Prove '..Said' where nothing that the law and all that it calls make is longer than what came in: it says more and counts as full. Else prove '..UptoSaid'. A law counts once. -/
mutual
def uptoBulk {H : Type} : DataW H → Nat
  | .lit (.string bytes) => bytes.length + 1
  | .lit _ => 1
  | .nil => 1
  | .ptr d => uptoBulk d + 1
  | .slice elems spare => uptoBulkAll elems + uptoBulkAll spare + 1
  | .agg parts => uptoBulkAll parts + 1
  | .iface _ d => uptoBulk d + 1
  | .map entries => uptoBulkEntries entries + 1
  | .held _ => 1
def uptoBulkAll {H : Type} : List (DataW H) → Nat
  | [] => 0
  | d :: r => uptoBulk d + uptoBulkAll r
def uptoBulkEntries {H : Type} : List (Lit × DataW H) → Nat
  | [] => 0
  | x :: r => uptoBulkEntry x + uptoBulkEntries r
def uptoBulkEntry {H : Type} : Lit × DataW H → Nat
  | (.string bytes, d) => bytes.length + uptoBulk d + 1
  | (_, d) => uptoBulk d + 1
 end
def uptoSmall : (H : Type) → List (DataW H) → Bool := fun _ ds => decide (uptoBulkAll ds ≤ 1048576)
def OpenSpec.upto (s : _root_.Go.ChangeSpec) : _root_.Go.OpenSpec := { _root_.Go.OpenSpec.ofChange s with cond := some uptoSmall }

/-- 'headkeep.EdfNames', WHERE WHAT IT READS IS OF BULK AT MOST 1048576: true; the input reads as it did. -/
def edfNamesUptoRow : OpenClaim := { program := "ytigekbidbeilnaa", sum := "a74ea63eb2a430d465abf7d9e3e529acb726fb1401c93cb4fc08341a9ba0f10a", func := "headway/headkeep.EdfNames", spec := "edfNames", apart := false, narrowed := true }
def EdfNamesUptoSaid : Prop := edfNamesUptoRow.holds Try.pinned (OpenSpec.upto edfNamesSpec)

/-- 'headkeep.EdfEasier', WHERE WHAT IT READS IS OF BULK AT MOST 1048576: true; the input reads as it did. -/
def edfEasierUptoRow : OpenClaim := { program := "ytigekbidbeilnaa", sum := "a74ea63eb2a430d465abf7d9e3e529acb726fb1401c93cb4fc08341a9ba0f10a", func := "headway/headkeep.EdfEasier", spec := "edfEasier", apart := false, narrowed := true }
def EdfEasierUptoSaid : Prop := edfEasierUptoRow.holds Try.pinned (OpenSpec.upto edfEasierSpec)

/-- 'headkeep.EdfRuns', WHERE WHAT IT READS IS OF BULK AT MOST 1048576: true; the input reads as it did. -/
def edfRunsUptoRow : OpenClaim := { program := "ytigekbidbeilnaa", sum := "a74ea63eb2a430d465abf7d9e3e529acb726fb1401c93cb4fc08341a9ba0f10a", func := "headway/headkeep.EdfRuns", spec := "edfRuns", apart := false, narrowed := true }
def EdfRunsUptoSaid : Prop := edfRunsUptoRow.holds Try.pinned (OpenSpec.upto edfRunsSpec)

/-- 'headkeep.EdfBest', WHERE WHAT IT READS IS OF BULK AT MOST 1048576: true; the input reads as it did. -/
def edfBestUptoRow : OpenClaim := { program := "ytigekbidbeilnaa", sum := "a74ea63eb2a430d465abf7d9e3e529acb726fb1401c93cb4fc08341a9ba0f10a", func := "headway/headkeep.EdfBest", spec := "edfBest", unfollowed := true, recurses := true, apart := false, narrowed := true }
def EdfBestUptoSaid : Prop := edfBestUptoRow.holds Try.pinned (OpenSpec.upto edfBestSpec)

/-- 'headkeep.EdfDemand', WHERE WHAT IT READS IS OF BULK AT MOST 1048576: true; the input reads as it did. -/
def edfDemandUptoRow : OpenClaim := { program := "ytigekbidbeilnaa", sum := "a74ea63eb2a430d465abf7d9e3e529acb726fb1401c93cb4fc08341a9ba0f10a", func := "headway/headkeep.EdfDemand", spec := "edfDemand", apart := false, narrowed := true }
def EdfDemandUptoSaid : Prop := edfDemandUptoRow.holds Try.pinned (OpenSpec.upto edfDemandSpec)

/-- 'headkeep.RanksFirst', WHERE WHAT IT READS IS OF BULK AT MOST 1048576: true; the input reads as it did. -/
def ranksFirstUptoRow : OpenClaim := { program := "ytigekbidbeilnaa", sum := "a74ea63eb2a430d465abf7d9e3e529acb726fb1401c93cb4fc08341a9ba0f10a", func := "headway/headkeep.RanksFirst", spec := "ranksFirst", apart := false, narrowed := true }
def RanksFirstUptoSaid : Prop := ranksFirstUptoRow.holds Try.pinned (OpenSpec.upto ranksFirstSpec)

/-- 'headkeep.RanksLess', WHERE WHAT IT READS IS OF BULK AT MOST 1048576: true; the input reads as it did. -/
def ranksLessUptoRow : OpenClaim := { program := "ytigekbidbeilnaa", sum := "a74ea63eb2a430d465abf7d9e3e529acb726fb1401c93cb4fc08341a9ba0f10a", func := "headway/headkeep.RanksLess", spec := "ranksLess", apart := false, narrowed := true }
def RanksLessUptoSaid : Prop := ranksLessUptoRow.holds Try.pinned (OpenSpec.upto ranksLessSpec)

/-- 'headkeep.RanksCritical', WHERE WHAT IT READS IS OF BULK AT MOST 1048576: true; the input reads as it did. -/
def ranksCriticalUptoRow : OpenClaim := { program := "ytigekbidbeilnaa", sum := "a74ea63eb2a430d465abf7d9e3e529acb726fb1401c93cb4fc08341a9ba0f10a", func := "headway/headkeep.RanksCritical", spec := "ranksCritical", apart := false, narrowed := true }
def RanksCriticalUptoSaid : Prop := ranksCriticalUptoRow.holds Try.pinned (OpenSpec.upto ranksCriticalSpec)

/-- 'headkeep.RanksMeet', WHERE WHAT IT READS IS OF BULK AT MOST 1048576: true; the input reads as it did. -/
def ranksMeetUptoRow : OpenClaim := { program := "ytigekbidbeilnaa", sum := "a74ea63eb2a430d465abf7d9e3e529acb726fb1401c93cb4fc08341a9ba0f10a", func := "headway/headkeep.RanksMeet", spec := "ranksMeet", apart := false, narrowed := true }
def RanksMeetUptoSaid : Prop := ranksMeetUptoRow.holds Try.pinned (OpenSpec.upto ranksMeetSpec)

/-- 'headkeep.RanksOrder', WHERE WHAT IT READS IS OF BULK AT MOST 1048576: true; the input reads as it did. -/
def ranksOrderUptoRow : OpenClaim := { program := "ytigekbidbeilnaa", sum := "a74ea63eb2a430d465abf7d9e3e529acb726fb1401c93cb4fc08341a9ba0f10a", func := "headway/headkeep.RanksOrder", spec := "ranksOrder", unfollowed := true, recurses := true, apart := false, narrowed := true }
def RanksOrderUptoSaid : Prop := ranksOrderUptoRow.holds Try.pinned (OpenSpec.upto ranksOrderSpec)

end Rows
end Go.Proofs.Ytigekbidbeilnaa
