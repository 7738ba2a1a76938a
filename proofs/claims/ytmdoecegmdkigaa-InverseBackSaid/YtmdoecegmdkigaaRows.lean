/-
  No cell of these rows narrows 'for every input' (looked for: loops, veiled, ifaces, maps, wideKeys, modest, calm, conditions, laid).
  DERIVED. THE GIVEN ROWS OF THIS SEAT. 12 by the template 'for every input the law returns true; each argument reads behind the call as it read before'; 0 by the template 'total and deterministic' (their statements: YtmdoecegmdkigaaTotals.lean).
  GIVEN WITH THE SEED: the statements are not yours to turn. If you find one false, say at which input.
  Laid BY PROGRAM, IN A SANDBOX (cutbox-rows.mjs): the forced cells as the released guide's own fill.sh prints them over the translation e47ea60e40dff128… (all of the seat's roots in one cut). By AI agents, Wed Nov 11 2026. No macro, syntax, notation, axiom, sorry.
-/
import Derived.Test.YtmdoecegmdkigaaChecked
import GoSem.Claim
import GoSem.ClaimJoined
import GoSem.ClaimMapViews
import Derived.JoinedTies
import Derived.KernelRfl
namespace Go.Proofs.Ytmdoecegmdkigaa
/- THE CELL 'sum', in the pinned program and in every row, IS THE sha256 OF THE DUMP (.gsa) THAT YtmdoecegmdkigaaProg.lean LOADS. Nothing in Lean hashes anything: it is a label: what it is worth is what the hold of that sum in a sandbox is worth. -/
noncomputable def Try.pinned : Pinned := { name := "ytmdoecegmdkigaa", sum := "e47ea60e40dff1283f045a17dff1ab5f8f578e3053da3585969a40e577374d34", checked := Try.checked }
namespace Rows
def none {H : Type} : Left H := { results := [], args := [] }

/-- 'headkeep.CurveOrder': WHATEVER THE INPUT: true; the input reads as it did. -/
def curveOrderSpec : ChangeSpec := { name := "curveOrder", fn := fun _ => fun
  | [d1, d2, d3] => { results := [.lit (.bool true)], args := [d1, d2, d3] }
  | _ => none }
def curveOrderRow : OpenClaim := { program := "ytmdoecegmdkigaa", sum := "e47ea60e40dff1283f045a17dff1ab5f8f578e3053da3585969a40e577374d34", func := "headway/headkeep.CurveOrder", spec := "curveOrder", apart := false }
def CurveOrderSaid : Prop := curveOrderRow.holds Try.pinned (OpenSpec.ofChange curveOrderSpec)

/-- ITS FALSE NEIGHBOUR: 'it returns false'. Refute it at one input. -/
def curveOrderWrong : ChangeSpec := { name := "curveOrder", fn := fun _ => fun
  | [d1, d2, d3] => { results := [.lit (.bool false)], args := [d1, d2, d3] }
  | _ => none }
def CurveOrderWrongFalsely : Prop := curveOrderRow.holds Try.pinned (OpenSpec.ofChange curveOrderWrong)

/-- 'headkeep.CurveCuts': WHATEVER THE INPUT: true; the input reads as it did. -/
def curveCutsSpec : ChangeSpec := { name := "curveCuts", fn := fun _ => fun
  | [d1, d2, d3, d4] => { results := [.lit (.bool true)], args := [d1, d2, d3, d4] }
  | _ => none }
def curveCutsRow : OpenClaim := { program := "ytmdoecegmdkigaa", sum := "e47ea60e40dff1283f045a17dff1ab5f8f578e3053da3585969a40e577374d34", func := "headway/headkeep.CurveCuts", spec := "curveCuts", apart := false }
def CurveCutsSaid : Prop := curveCutsRow.holds Try.pinned (OpenSpec.ofChange curveCutsSpec)

/-- ITS FALSE NEIGHBOUR: 'it returns false'. Refute it at one input. -/
def curveCutsWrong : ChangeSpec := { name := "curveCuts", fn := fun _ => fun
  | [d1, d2, d3, d4] => { results := [.lit (.bool false)], args := [d1, d2, d3, d4] }
  | _ => none }
def CurveCutsWrongFalsely : Prop := curveCutsRow.holds Try.pinned (OpenSpec.ofChange curveCutsWrong)

/-- 'headkeep.InverseGalois': WHATEVER THE INPUT: true; the input reads as it did. -/
def inverseGaloisSpec : ChangeSpec := { name := "inverseGalois", fn := fun _ => fun
  | [d1, d2, d3] => { results := [.lit (.bool true)], args := [d1, d2, d3] }
  | _ => none }
def inverseGaloisRow : OpenClaim := { program := "ytmdoecegmdkigaa", sum := "e47ea60e40dff1283f045a17dff1ab5f8f578e3053da3585969a40e577374d34", func := "headway/headkeep.InverseGalois", spec := "inverseGalois", unfollowed := true, recurses := true, apart := false }
def InverseGaloisSaid : Prop := inverseGaloisRow.holds Try.pinned (OpenSpec.ofChange inverseGaloisSpec)

/-- ITS FALSE NEIGHBOUR: 'it returns false'. Refute it at one input. -/
def inverseGaloisWrong : ChangeSpec := { name := "inverseGalois", fn := fun _ => fun
  | [d1, d2, d3] => { results := [.lit (.bool false)], args := [d1, d2, d3] }
  | _ => none }
def InverseGaloisWrongFalsely : Prop := inverseGaloisRow.holds Try.pinned (OpenSpec.ofChange inverseGaloisWrong)

/-- 'headkeep.InverseBack': WHATEVER THE INPUT: true; the input reads as it did. -/
def inverseBackSpec : ChangeSpec := { name := "inverseBack", fn := fun _ => fun
  | [d1, d2] => { results := [.lit (.bool true)], args := [d1, d2] }
  | _ => none }
def inverseBackRow : OpenClaim := { program := "ytmdoecegmdkigaa", sum := "e47ea60e40dff1283f045a17dff1ab5f8f578e3053da3585969a40e577374d34", func := "headway/headkeep.InverseBack", spec := "inverseBack", unfollowed := true, recurses := true, apart := false }
def InverseBackSaid : Prop := inverseBackRow.holds Try.pinned (OpenSpec.ofChange inverseBackSpec)

/-- ITS FALSE NEIGHBOUR: 'it returns false'. Refute it at one input. -/
def inverseBackWrong : ChangeSpec := { name := "inverseBack", fn := fun _ => fun
  | [d1, d2] => { results := [.lit (.bool false)], args := [d1, d2] }
  | _ => none }
def InverseBackWrongFalsely : Prop := inverseBackRow.holds Try.pinned (OpenSpec.ofChange inverseBackWrong)

/-- 'headkeep.InverseGrows': WHATEVER THE INPUT: true; the input reads as it did. -/
def inverseGrowsSpec : ChangeSpec := { name := "inverseGrows", fn := fun _ => fun
  | [d1, d2, d3, d4] => { results := [.lit (.bool true)], args := [d1, d2, d3, d4] }
  | _ => none }
def inverseGrowsRow : OpenClaim := { program := "ytmdoecegmdkigaa", sum := "e47ea60e40dff1283f045a17dff1ab5f8f578e3053da3585969a40e577374d34", func := "headway/headkeep.InverseGrows", spec := "inverseGrows", unfollowed := true, recurses := true, apart := false }
def InverseGrowsSaid : Prop := inverseGrowsRow.holds Try.pinned (OpenSpec.ofChange inverseGrowsSpec)

/-- ITS FALSE NEIGHBOUR: 'it returns false'. Refute it at one input. -/
def inverseGrowsWrong : ChangeSpec := { name := "inverseGrows", fn := fun _ => fun
  | [d1, d2, d3, d4] => { results := [.lit (.bool false)], args := [d1, d2, d3, d4] }
  | _ => none }
def InverseGrowsWrongFalsely : Prop := inverseGrowsRow.holds Try.pinned (OpenSpec.ofChange inverseGrowsWrong)

/-- 'headkeep.BoundGrows': WHATEVER THE INPUT: true; the input reads as it did. -/
def boundGrowsSpec : ChangeSpec := { name := "boundGrows", fn := fun _ => fun
  | [d1, d2, d3] => { results := [.lit (.bool true)], args := [d1, d2, d3] }
  | _ => none }
def boundGrowsRow : OpenClaim := { program := "ytmdoecegmdkigaa", sum := "e47ea60e40dff1283f045a17dff1ab5f8f578e3053da3585969a40e577374d34", func := "headway/headkeep.BoundGrows", spec := "boundGrows", apart := false }
def BoundGrowsSaid : Prop := boundGrowsRow.holds Try.pinned (OpenSpec.ofChange boundGrowsSpec)

/-- ITS FALSE NEIGHBOUR: 'it returns false'. Refute it at one input. -/
def boundGrowsWrong : ChangeSpec := { name := "boundGrows", fn := fun _ => fun
  | [d1, d2, d3] => { results := [.lit (.bool false)], args := [d1, d2, d3] }
  | _ => none }
def BoundGrowsWrongFalsely : Prop := boundGrowsRow.holds Try.pinned (OpenSpec.ofChange boundGrowsWrong)

/-- 'headkeep.BoundNone': WHATEVER THE INPUT: true; the input reads as it did. -/
def boundNoneSpec : ChangeSpec := { name := "boundNone", fn := fun _ => fun
  | [d1, d2] => { results := [.lit (.bool true)], args := [d1, d2] }
  | _ => none }
def boundNoneRow : OpenClaim := { program := "ytmdoecegmdkigaa", sum := "e47ea60e40dff1283f045a17dff1ab5f8f578e3053da3585969a40e577374d34", func := "headway/headkeep.BoundNone", spec := "boundNone", apart := false }
def BoundNoneSaid : Prop := boundNoneRow.holds Try.pinned (OpenSpec.ofChange boundNoneSpec)

/-- ITS FALSE NEIGHBOUR: 'it returns false'. Refute it at one input. -/
def boundNoneWrong : ChangeSpec := { name := "boundNone", fn := fun _ => fun
  | [d1, d2] => { results := [.lit (.bool false)], args := [d1, d2] }
  | _ => none }
def BoundNoneWrongFalsely : Prop := boundNoneRow.holds Try.pinned (OpenSpec.ofChange boundNoneWrong)

/-- 'headkeep.TraceSums': WHATEVER THE INPUT: true; the input reads as it did. -/
def traceSumsSpec : ChangeSpec := { name := "traceSums", fn := fun _ => fun
  | [d1, d2, d3, d4] => { results := [.lit (.bool true)], args := [d1, d2, d3, d4] }
  | _ => none }
def traceSumsRow : OpenClaim := { program := "ytmdoecegmdkigaa", sum := "e47ea60e40dff1283f045a17dff1ab5f8f578e3053da3585969a40e577374d34", func := "headway/headkeep.TraceSums", spec := "traceSums", unfollowed := true, recurses := true, apart := false }
def TraceSumsSaid : Prop := traceSumsRow.holds Try.pinned (OpenSpec.ofChange traceSumsSpec)

/-- ITS FALSE NEIGHBOUR: 'it returns false'. Refute it at one input. -/
def traceSumsWrong : ChangeSpec := { name := "traceSums", fn := fun _ => fun
  | [d1, d2, d3, d4] => { results := [.lit (.bool false)], args := [d1, d2, d3, d4] }
  | _ => none }
def TraceSumsWrongFalsely : Prop := traceSumsRow.holds Try.pinned (OpenSpec.ofChange traceSumsWrong)

/-- 'headkeep.TraceBack': WHATEVER THE INPUT: true; the input reads as it did. -/
def traceBackSpec : ChangeSpec := { name := "traceBack", fn := fun _ => fun
  | [d1, d2] => { results := [.lit (.bool true)], args := [d1, d2] }
  | _ => none }
def traceBackRow : OpenClaim := { program := "ytmdoecegmdkigaa", sum := "e47ea60e40dff1283f045a17dff1ab5f8f578e3053da3585969a40e577374d34", func := "headway/headkeep.TraceBack", spec := "traceBack", apart := false }
def TraceBackSaid : Prop := traceBackRow.holds Try.pinned (OpenSpec.ofChange traceBackSpec)

/-- ITS FALSE NEIGHBOUR: 'it returns false'. Refute it at one input. -/
def traceBackWrong : ChangeSpec := { name := "traceBack", fn := fun _ => fun
  | [d1, d2] => { results := [.lit (.bool false)], args := [d1, d2] }
  | _ => none }
def TraceBackWrongFalsely : Prop := traceBackRow.holds Try.pinned (OpenSpec.ofChange traceBackWrong)

/-- 'headkeep.PointLattice': WHATEVER THE INPUT: true; the input reads as it did. -/
def pointLatticeSpec : ChangeSpec := { name := "pointLattice", fn := fun _ => fun
  | [d1, d2, d3] => { results := [.lit (.bool true)], args := [d1, d2, d3] }
  | _ => none }
def pointLatticeRow : OpenClaim := { program := "ytmdoecegmdkigaa", sum := "e47ea60e40dff1283f045a17dff1ab5f8f578e3053da3585969a40e577374d34", func := "headway/headkeep.PointLattice", spec := "pointLattice", unfollowed := true, recurses := true, apart := false }
def PointLatticeSaid : Prop := pointLatticeRow.holds Try.pinned (OpenSpec.ofChange pointLatticeSpec)

/-- ITS FALSE NEIGHBOUR: 'it returns false'. Refute it at one input. -/
def pointLatticeWrong : ChangeSpec := { name := "pointLattice", fn := fun _ => fun
  | [d1, d2, d3] => { results := [.lit (.bool false)], args := [d1, d2, d3] }
  | _ => none }
def PointLatticeWrongFalsely : Prop := pointLatticeRow.holds Try.pinned (OpenSpec.ofChange pointLatticeWrong)

/-- 'headkeep.PointSums': WHATEVER THE INPUT: true; the input reads as it did. -/
def pointSumsSpec : ChangeSpec := { name := "pointSums", fn := fun _ => fun
  | [d1, d2, d3, d4, d5] => { results := [.lit (.bool true)], args := [d1, d2, d3, d4, d5] }
  | _ => none }
def pointSumsRow : OpenClaim := { program := "ytmdoecegmdkigaa", sum := "e47ea60e40dff1283f045a17dff1ab5f8f578e3053da3585969a40e577374d34", func := "headway/headkeep.PointSums", spec := "pointSums", unfollowed := true, recurses := true, apart := false }
def PointSumsSaid : Prop := pointSumsRow.holds Try.pinned (OpenSpec.ofChange pointSumsSpec)

/-- ITS FALSE NEIGHBOUR: 'it returns false'. Refute it at one input. -/
def pointSumsWrong : ChangeSpec := { name := "pointSums", fn := fun _ => fun
  | [d1, d2, d3, d4, d5] => { results := [.lit (.bool false)], args := [d1, d2, d3, d4, d5] }
  | _ => none }
def PointSumsWrongFalsely : Prop := pointSumsRow.holds Try.pinned (OpenSpec.ofChange pointSumsWrong)

/-- 'headkeep.PointGalois': WHATEVER THE INPUT: true; the input reads as it did. -/
def pointGaloisSpec : ChangeSpec := { name := "pointGalois", fn := fun _ => fun
  | [d1, d2, d3] => { results := [.lit (.bool true)], args := [d1, d2, d3] }
  | _ => none }
def pointGaloisRow : OpenClaim := { program := "ytmdoecegmdkigaa", sum := "e47ea60e40dff1283f045a17dff1ab5f8f578e3053da3585969a40e577374d34", func := "headway/headkeep.PointGalois", spec := "pointGalois", unfollowed := true, recurses := true, apart := false }
def PointGaloisSaid : Prop := pointGaloisRow.holds Try.pinned (OpenSpec.ofChange pointGaloisSpec)

/-- ITS FALSE NEIGHBOUR: 'it returns false'. Refute it at one input. -/
def pointGaloisWrong : ChangeSpec := { name := "pointGalois", fn := fun _ => fun
  | [d1, d2, d3] => { results := [.lit (.bool false)], args := [d1, d2, d3] }
  | _ => none }
def PointGaloisWrongFalsely : Prop := pointGaloisRow.holds Try.pinned (OpenSpec.ofChange pointGaloisWrong)

/- THE SECOND FORM. 'bulk': how many values and letters a reading holds, each counted each time it is reached (what is shared counts as often as it is met; a slice's spare places count too). A statement '..UptoSaid' is the law's where the arguments, and the package variables that the reading takes, are together of bulk at most 1048576: NARROWER than '..Said'. Prove '..Said' where nothing that the law and all that it calls make is longer than what came in: it says more and counts as full. Else prove '..UptoSaid'. A law counts once. -/
mutual
def uptoBulk {H : Type} : DataW H → Nat
  | .lit (.string bytes) => bytes.length + 1
  | .lit _ => 1
  | .nil => 1
  | .ptr d => uptoBulk d + 1
  | .slice elems spare => uptoBulkAll elems + uptoBulkAll spare + 1
  | .agg parts => uptoBulkAll parts + 1
  | .iface _ d => uptoBulk d + 1
  | .map entries => uptoBulkEntries entries + 1
  | .held _ => 1
def uptoBulkAll {H : Type} : List (DataW H) → Nat
  | [] => 0
  | d :: r => uptoBulk d + uptoBulkAll r
def uptoBulkEntries {H : Type} : List (Lit × DataW H) → Nat
  | [] => 0
  | x :: r => uptoBulkEntry x + uptoBulkEntries r
def uptoBulkEntry {H : Type} : Lit × DataW H → Nat
  | (.string bytes, d) => bytes.length + uptoBulk d + 1
  | (_, d) => uptoBulk d + 1
 end
def uptoSmall : (H : Type) → List (DataW H) → Bool := fun _ ds => decide (uptoBulkAll ds ≤ 1048576)
def OpenSpec.upto (s : _root_.Go.ChangeSpec) : _root_.Go.OpenSpec := { _root_.Go.OpenSpec.ofChange s with cond := some uptoSmall }

/-- 'headkeep.CurveOrder', WHERE WHAT IT READS IS OF BULK AT MOST 1048576: true; the input reads as it did. -/
def curveOrderUptoRow : OpenClaim := { program := "ytmdoecegmdkigaa", sum := "e47ea60e40dff1283f045a17dff1ab5f8f578e3053da3585969a40e577374d34", func := "headway/headkeep.CurveOrder", spec := "curveOrder", apart := false, narrowed := true }
def CurveOrderUptoSaid : Prop := curveOrderUptoRow.holds Try.pinned (OpenSpec.upto curveOrderSpec)

/-- 'headkeep.CurveCuts', WHERE WHAT IT READS IS OF BULK AT MOST 1048576: true; the input reads as it did. -/
def curveCutsUptoRow : OpenClaim := { program := "ytmdoecegmdkigaa", sum := "e47ea60e40dff1283f045a17dff1ab5f8f578e3053da3585969a40e577374d34", func := "headway/headkeep.CurveCuts", spec := "curveCuts", apart := false, narrowed := true }
def CurveCutsUptoSaid : Prop := curveCutsUptoRow.holds Try.pinned (OpenSpec.upto curveCutsSpec)

/-- 'headkeep.InverseGalois', WHERE WHAT IT READS IS OF BULK AT MOST 1048576: true; the input reads as it did. -/
def inverseGaloisUptoRow : OpenClaim := { program := "ytmdoecegmdkigaa", sum := "e47ea60e40dff1283f045a17dff1ab5f8f578e3053da3585969a40e577374d34", func := "headway/headkeep.InverseGalois", spec := "inverseGalois", unfollowed := true, recurses := true, apart := false, narrowed := true }
def InverseGaloisUptoSaid : Prop := inverseGaloisUptoRow.holds Try.pinned (OpenSpec.upto inverseGaloisSpec)

/-- 'headkeep.InverseBack', WHERE WHAT IT READS IS OF BULK AT MOST 1048576: true; the input reads as it did. -/
def inverseBackUptoRow : OpenClaim := { program := "ytmdoecegmdkigaa", sum := "e47ea60e40dff1283f045a17dff1ab5f8f578e3053da3585969a40e577374d34", func := "headway/headkeep.InverseBack", spec := "inverseBack", unfollowed := true, recurses := true, apart := false, narrowed := true }
def InverseBackUptoSaid : Prop := inverseBackUptoRow.holds Try.pinned (OpenSpec.upto inverseBackSpec)

/-- 'headkeep.InverseGrows', WHERE WHAT IT READS IS OF BULK AT MOST 1048576: true; the input reads as it did. -/
def inverseGrowsUptoRow : OpenClaim := { program := "ytmdoecegmdkigaa", sum := "e47ea60e40dff1283f045a17dff1ab5f8f578e3053da3585969a40e577374d34", func := "headway/headkeep.InverseGrows", spec := "inverseGrows", unfollowed := true, recurses := true, apart := false, narrowed := true }
def InverseGrowsUptoSaid : Prop := inverseGrowsUptoRow.holds Try.pinned (OpenSpec.upto inverseGrowsSpec)

/-- 'headkeep.BoundGrows', WHERE WHAT IT READS IS OF BULK AT MOST 1048576: true; the input reads as it did. -/
def boundGrowsUptoRow : OpenClaim := { program := "ytmdoecegmdkigaa", sum := "e47ea60e40dff1283f045a17dff1ab5f8f578e3053da3585969a40e577374d34", func := "headway/headkeep.BoundGrows", spec := "boundGrows", apart := false, narrowed := true }
def BoundGrowsUptoSaid : Prop := boundGrowsUptoRow.holds Try.pinned (OpenSpec.upto boundGrowsSpec)

/-- 'headkeep.BoundNone', WHERE WHAT IT READS IS OF BULK AT MOST 1048576: true; the input reads as it did. -/
def boundNoneUptoRow : OpenClaim := { program := "ytmdoecegmdkigaa", sum := "e47ea60e40dff1283f045a17dff1ab5f8f578e3053da3585969a40e577374d34", func := "headway/headkeep.BoundNone", spec := "boundNone", apart := false, narrowed := true }
def BoundNoneUptoSaid : Prop := boundNoneUptoRow.holds Try.pinned (OpenSpec.upto boundNoneSpec)

/-- 'headkeep.TraceSums', WHERE WHAT IT READS IS OF BULK AT MOST 1048576: true; the input reads as it did. -/
def traceSumsUptoRow : OpenClaim := { program := "ytmdoecegmdkigaa", sum := "e47ea60e40dff1283f045a17dff1ab5f8f578e3053da3585969a40e577374d34", func := "headway/headkeep.TraceSums", spec := "traceSums", unfollowed := true, recurses := true, apart := false, narrowed := true }
def TraceSumsUptoSaid : Prop := traceSumsUptoRow.holds Try.pinned (OpenSpec.upto traceSumsSpec)

/-- 'headkeep.TraceBack', WHERE WHAT IT READS IS OF BULK AT MOST 1048576: true; the input reads as it did. -/
def traceBackUptoRow : OpenClaim := { program := "ytmdoecegmdkigaa", sum := "e47ea60e40dff1283f045a17dff1ab5f8f578e3053da3585969a40e577374d34", func := "headway/headkeep.TraceBack", spec := "traceBack", apart := false, narrowed := true }
def TraceBackUptoSaid : Prop := traceBackUptoRow.holds Try.pinned (OpenSpec.upto traceBackSpec)

/-- 'headkeep.PointLattice', WHERE WHAT IT READS IS OF BULK AT MOST 1048576: true; the input reads as it did. -/
def pointLatticeUptoRow : OpenClaim := { program := "ytmdoecegmdkigaa", sum := "e47ea60e40dff1283f045a17dff1ab5f8f578e3053da3585969a40e577374d34", func := "headway/headkeep.PointLattice", spec := "pointLattice", unfollowed := true, recurses := true, apart := false, narrowed := true }
def PointLatticeUptoSaid : Prop := pointLatticeUptoRow.holds Try.pinned (OpenSpec.upto pointLatticeSpec)

/-- 'headkeep.PointSums', WHERE WHAT IT READS IS OF BULK AT MOST 1048576: true; the input reads as it did. -/
def pointSumsUptoRow : OpenClaim := { program := "ytmdoecegmdkigaa", sum := "e47ea60e40dff1283f045a17dff1ab5f8f578e3053da3585969a40e577374d34", func := "headway/headkeep.PointSums", spec := "pointSums", unfollowed := true, recurses := true, apart := false, narrowed := true }
def PointSumsUptoSaid : Prop := pointSumsUptoRow.holds Try.pinned (OpenSpec.upto pointSumsSpec)

/-- 'headkeep.PointGalois', WHERE WHAT IT READS IS OF BULK AT MOST 1048576: true; the input reads as it did. -/
def pointGaloisUptoRow : OpenClaim := { program := "ytmdoecegmdkigaa", sum := "e47ea60e40dff1283f045a17dff1ab5f8f578e3053da3585969a40e577374d34", func := "headway/headkeep.PointGalois", spec := "pointGalois", unfollowed := true, recurses := true, apart := false, narrowed := true }
def PointGaloisUptoSaid : Prop := pointGaloisUptoRow.holds Try.pinned (OpenSpec.upto pointGaloisSpec)

end Rows
end Go.Proofs.Ytmdoecegmdkigaa
