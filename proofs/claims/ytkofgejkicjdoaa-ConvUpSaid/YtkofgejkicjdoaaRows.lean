/-
  No cell of these rows narrows 'for every input' (looked for: loops, veiled, ifaces, maps, wideKeys, modest, calm, conditions, laid).
  DERIVED. THE GIVEN ROWS OF THIS SEAT. 12 by the template 'for every input the law returns true; each argument reads behind the call as it read before'; 0 by the template 'total and deterministic' (their statements: YtkofgejkicjdoaaTotals.lean).
  GIVEN WITH THE SEED: the statements are not yours to turn. If you find one false, say at which input.
  Laid BY PROGRAM, IN A SANDBOX (cutbox-rows.mjs): the forced cells as the released guide's own fill.sh prints them over the translation fbc1b2aaa1c9cee1… (all of the seat's roots in one cut). By AI agents, Wed Nov 11 2026. No macro, syntax, notation, axiom, sorry.
-/
import Derived.Test.YtkofgejkicjdoaaChecked
import GoSem.Claim
import GoSem.ClaimJoined
import GoSem.ClaimMapViews
import Derived.JoinedTies
import Derived.KernelRfl
namespace Go.Proofs.Ytkofgejkicjdoaa
/- THE CELL 'sum', in the pinned program and in every row, IS THE sha256 OF THE DUMP (.gsa) THAT YtkofgejkicjdoaaProg.lean LOADS. Nothing in Lean hashes anything: it is a label: what it is worth is what the hold of that sum in a sandbox is worth. -/
noncomputable def Try.pinned : Pinned := { name := "ytkofgejkicjdoaa", sum := "fbc1b2aaa1c9cee1d3bdf5e007c552caca220ac2fee231ce57eb59a5a2e480c5", checked := Try.checked }
namespace Rows
def none {H : Type} : Left H := { results := [], args := [] }

/-- 'headkeep.ConvOrders': WHATEVER THE INPUT: true; the input reads as it did. -/
def convOrdersSpec : ChangeSpec := { name := "convOrders", fn := fun _ => fun
  | [d1, d2, d3] => { results := [.lit (.bool true)], args := [d1, d2, d3] }
  | _ => none }
def convOrdersRow : OpenClaim := { program := "ytkofgejkicjdoaa", sum := "fbc1b2aaa1c9cee1d3bdf5e007c552caca220ac2fee231ce57eb59a5a2e480c5", func := "headway/headkeep.ConvOrders", spec := "convOrders", apart := false }
def ConvOrdersSaid : Prop := convOrdersRow.holds Try.pinned (OpenSpec.ofChange convOrdersSpec)

/-- ITS FALSE NEIGHBOUR: 'it returns false'. Refute it at one input. -/
def convOrdersWrong : ChangeSpec := { name := "convOrders", fn := fun _ => fun
  | [d1, d2, d3] => { results := [.lit (.bool false)], args := [d1, d2, d3] }
  | _ => none }
def ConvOrdersWrongFalsely : Prop := convOrdersRow.holds Try.pinned (OpenSpec.ofChange convOrdersWrong)

/-- 'headkeep.ConvCuts': WHATEVER THE INPUT: true; the input reads as it did. -/
def convCutsSpec : ChangeSpec := { name := "convCuts", fn := fun _ => fun
  | [d1, d2, d3] => { results := [.lit (.bool true)], args := [d1, d2, d3] }
  | _ => none }
def convCutsRow : OpenClaim := { program := "ytkofgejkicjdoaa", sum := "fbc1b2aaa1c9cee1d3bdf5e007c552caca220ac2fee231ce57eb59a5a2e480c5", func := "headway/headkeep.ConvCuts", spec := "convCuts", apart := false }
def ConvCutsSaid : Prop := convCutsRow.holds Try.pinned (OpenSpec.ofChange convCutsSpec)

/-- ITS FALSE NEIGHBOUR: 'it returns false'. Refute it at one input. -/
def convCutsWrong : ChangeSpec := { name := "convCuts", fn := fun _ => fun
  | [d1, d2, d3] => { results := [.lit (.bool false)], args := [d1, d2, d3] }
  | _ => none }
def ConvCutsWrongFalsely : Prop := convCutsRow.holds Try.pinned (OpenSpec.ofChange convCutsWrong)

/-- 'headkeep.ConvMin': WHATEVER THE INPUT: true; the input reads as it did. -/
def convMinSpec : ChangeSpec := { name := "convMin", fn := fun _ => fun
  | [d1, d2, d3] => { results := [.lit (.bool true)], args := [d1, d2, d3] }
  | _ => none }
def convMinRow : OpenClaim := { program := "ytkofgejkicjdoaa", sum := "fbc1b2aaa1c9cee1d3bdf5e007c552caca220ac2fee231ce57eb59a5a2e480c5", func := "headway/headkeep.ConvMin", spec := "convMin", unfollowed := true, recurses := true, apart := false }
def ConvMinSaid : Prop := convMinRow.holds Try.pinned (OpenSpec.ofChange convMinSpec)

/-- ITS FALSE NEIGHBOUR: 'it returns false'. Refute it at one input. -/
def convMinWrong : ChangeSpec := { name := "convMin", fn := fun _ => fun
  | [d1, d2, d3] => { results := [.lit (.bool false)], args := [d1, d2, d3] }
  | _ => none }
def ConvMinWrongFalsely : Prop := convMinRow.holds Try.pinned (OpenSpec.ofChange convMinWrong)

/-- 'headkeep.ConvUp': WHATEVER THE INPUT: true; the input reads as it did. -/
def convUpSpec : ChangeSpec := { name := "convUp", fn := fun _ => fun
  | [d1, d2, d3] => { results := [.lit (.bool true)], args := [d1, d2, d3] }
  | _ => none }
def convUpRow : OpenClaim := { program := "ytkofgejkicjdoaa", sum := "fbc1b2aaa1c9cee1d3bdf5e007c552caca220ac2fee231ce57eb59a5a2e480c5", func := "headway/headkeep.ConvUp", spec := "convUp", apart := false }
def ConvUpSaid : Prop := convUpRow.holds Try.pinned (OpenSpec.ofChange convUpSpec)

/-- ITS FALSE NEIGHBOUR: 'it returns false'. Refute it at one input. -/
def convUpWrong : ChangeSpec := { name := "convUp", fn := fun _ => fun
  | [d1, d2, d3] => { results := [.lit (.bool false)], args := [d1, d2, d3] }
  | _ => none }
def ConvUpWrongFalsely : Prop := convUpRow.holds Try.pinned (OpenSpec.ofChange convUpWrong)

/-- 'headkeep.ConvPowers': WHATEVER THE INPUT: true; the input reads as it did. -/
def convPowersSpec : ChangeSpec := { name := "convPowers", fn := fun _ => fun
  | [d1, d2, d3] => { results := [.lit (.bool true)], args := [d1, d2, d3] }
  | _ => none }
def convPowersRow : OpenClaim := { program := "ytkofgejkicjdoaa", sum := "fbc1b2aaa1c9cee1d3bdf5e007c552caca220ac2fee231ce57eb59a5a2e480c5", func := "headway/headkeep.ConvPowers", spec := "convPowers", apart := false }
def ConvPowersSaid : Prop := convPowersRow.holds Try.pinned (OpenSpec.ofChange convPowersSpec)

/-- ITS FALSE NEIGHBOUR: 'it returns false'. Refute it at one input. -/
def convPowersWrong : ChangeSpec := { name := "convPowers", fn := fun _ => fun
  | [d1, d2, d3] => { results := [.lit (.bool false)], args := [d1, d2, d3] }
  | _ => none }
def ConvPowersWrongFalsely : Prop := convPowersRow.holds Try.pinned (OpenSpec.ofChange convPowersWrong)

/-- 'headkeep.ConvGrows': WHATEVER THE INPUT: true; the input reads as it did. -/
def convGrowsSpec : ChangeSpec := { name := "convGrows", fn := fun _ => fun
  | [d1, d2, d3] => { results := [.lit (.bool true)], args := [d1, d2, d3] }
  | _ => none }
def convGrowsRow : OpenClaim := { program := "ytkofgejkicjdoaa", sum := "fbc1b2aaa1c9cee1d3bdf5e007c552caca220ac2fee231ce57eb59a5a2e480c5", func := "headway/headkeep.ConvGrows", spec := "convGrows", apart := false }
def ConvGrowsSaid : Prop := convGrowsRow.holds Try.pinned (OpenSpec.ofChange convGrowsSpec)

/-- ITS FALSE NEIGHBOUR: 'it returns false'. Refute it at one input. -/
def convGrowsWrong : ChangeSpec := { name := "convGrows", fn := fun _ => fun
  | [d1, d2, d3] => { results := [.lit (.bool false)], args := [d1, d2, d3] }
  | _ => none }
def ConvGrowsWrongFalsely : Prop := convGrowsRow.holds Try.pinned (OpenSpec.ofChange convGrowsWrong)

/-- 'headkeep.DeconvGrows': WHATEVER THE INPUT: true; the input reads as it did. -/
def deconvGrowsSpec : ChangeSpec := { name := "deconvGrows", fn := fun _ => fun
  | [d1, d2, d3] => { results := [.lit (.bool true)], args := [d1, d2, d3] }
  | _ => none }
def deconvGrowsRow : OpenClaim := { program := "ytkofgejkicjdoaa", sum := "fbc1b2aaa1c9cee1d3bdf5e007c552caca220ac2fee231ce57eb59a5a2e480c5", func := "headway/headkeep.DeconvGrows", spec := "deconvGrows", apart := false }
def DeconvGrowsSaid : Prop := deconvGrowsRow.holds Try.pinned (OpenSpec.ofChange deconvGrowsSpec)

/-- ITS FALSE NEIGHBOUR: 'it returns false'. Refute it at one input. -/
def deconvGrowsWrong : ChangeSpec := { name := "deconvGrows", fn := fun _ => fun
  | [d1, d2, d3] => { results := [.lit (.bool false)], args := [d1, d2, d3] }
  | _ => none }
def DeconvGrowsWrongFalsely : Prop := deconvGrowsRow.holds Try.pinned (OpenSpec.ofChange deconvGrowsWrong)

/-- 'headkeep.DeconvMax': WHATEVER THE INPUT: true; the input reads as it did. -/
def deconvMaxSpec : ChangeSpec := { name := "deconvMax", fn := fun _ => fun
  | [d1, d2, d3] => { results := [.lit (.bool true)], args := [d1, d2, d3] }
  | _ => none }
def deconvMaxRow : OpenClaim := { program := "ytkofgejkicjdoaa", sum := "fbc1b2aaa1c9cee1d3bdf5e007c552caca220ac2fee231ce57eb59a5a2e480c5", func := "headway/headkeep.DeconvMax", spec := "deconvMax", unfollowed := true, recurses := true, apart := false }
def DeconvMaxSaid : Prop := deconvMaxRow.holds Try.pinned (OpenSpec.ofChange deconvMaxSpec)

/-- ITS FALSE NEIGHBOUR: 'it returns false'. Refute it at one input. -/
def deconvMaxWrong : ChangeSpec := { name := "deconvMax", fn := fun _ => fun
  | [d1, d2, d3] => { results := [.lit (.bool false)], args := [d1, d2, d3] }
  | _ => none }
def DeconvMaxWrongFalsely : Prop := deconvMaxRow.holds Try.pinned (OpenSpec.ofChange deconvMaxWrong)

/-- 'headkeep.DeconvTwice': WHATEVER THE INPUT: true; the input reads as it did. -/
def deconvTwiceSpec : ChangeSpec := { name := "deconvTwice", fn := fun _ => fun
  | [d1, d2, d3] => { results := [.lit (.bool true)], args := [d1, d2, d3] }
  | _ => none }
def deconvTwiceRow : OpenClaim := { program := "ytkofgejkicjdoaa", sum := "fbc1b2aaa1c9cee1d3bdf5e007c552caca220ac2fee231ce57eb59a5a2e480c5", func := "headway/headkeep.DeconvTwice", spec := "deconvTwice", apart := false }
def DeconvTwiceSaid : Prop := deconvTwiceRow.holds Try.pinned (OpenSpec.ofChange deconvTwiceSpec)

/-- ITS FALSE NEIGHBOUR: 'it returns false'. Refute it at one input. -/
def deconvTwiceWrong : ChangeSpec := { name := "deconvTwice", fn := fun _ => fun
  | [d1, d2, d3] => { results := [.lit (.bool false)], args := [d1, d2, d3] }
  | _ => none }
def DeconvTwiceWrongFalsely : Prop := deconvTwiceRow.holds Try.pinned (OpenSpec.ofChange deconvTwiceWrong)

/-- 'headkeep.DeconvGalois': WHATEVER THE INPUT: true; the input reads as it did. -/
def deconvGaloisSpec : ChangeSpec := { name := "deconvGalois", fn := fun _ => fun
  | [d1, d2, d3] => { results := [.lit (.bool true)], args := [d1, d2, d3] }
  | _ => none }
def deconvGaloisRow : OpenClaim := { program := "ytkofgejkicjdoaa", sum := "fbc1b2aaa1c9cee1d3bdf5e007c552caca220ac2fee231ce57eb59a5a2e480c5", func := "headway/headkeep.DeconvGalois", spec := "deconvGalois", apart := false }
def DeconvGaloisSaid : Prop := deconvGaloisRow.holds Try.pinned (OpenSpec.ofChange deconvGaloisSpec)

/-- ITS FALSE NEIGHBOUR: 'it returns false'. Refute it at one input. -/
def deconvGaloisWrong : ChangeSpec := { name := "deconvGalois", fn := fun _ => fun
  | [d1, d2, d3] => { results := [.lit (.bool false)], args := [d1, d2, d3] }
  | _ => none }
def DeconvGaloisWrongFalsely : Prop := deconvGaloisRow.holds Try.pinned (OpenSpec.ofChange deconvGaloisWrong)

/-- 'headkeep.PointLates': WHATEVER THE INPUT: true; the input reads as it did. -/
def pointLatesSpec : ChangeSpec := { name := "pointLates", fn := fun _ => fun
  | [d1, d2, d3, d4] => { results := [.lit (.bool true)], args := [d1, d2, d3, d4] }
  | _ => none }
def pointLatesRow : OpenClaim := { program := "ytkofgejkicjdoaa", sum := "fbc1b2aaa1c9cee1d3bdf5e007c552caca220ac2fee231ce57eb59a5a2e480c5", func := "headway/headkeep.PointLates", spec := "pointLates", unfollowed := true, recurses := true, apart := false }
def PointLatesSaid : Prop := pointLatesRow.holds Try.pinned (OpenSpec.ofChange pointLatesSpec)

/-- ITS FALSE NEIGHBOUR: 'it returns false'. Refute it at one input. -/
def pointLatesWrong : ChangeSpec := { name := "pointLates", fn := fun _ => fun
  | [d1, d2, d3, d4] => { results := [.lit (.bool false)], args := [d1, d2, d3, d4] }
  | _ => none }
def PointLatesWrongFalsely : Prop := pointLatesRow.holds Try.pinned (OpenSpec.ofChange pointLatesWrong)

/-- 'headkeep.ClosurePowers': WHATEVER THE INPUT: true; the input reads as it did. -/
def closurePowersSpec : ChangeSpec := { name := "closurePowers", fn := fun _ => fun
  | [d] => { results := [.lit (.bool true)], args := [d] }
  | _ => none }
def closurePowersRow : OpenClaim := { program := "ytkofgejkicjdoaa", sum := "fbc1b2aaa1c9cee1d3bdf5e007c552caca220ac2fee231ce57eb59a5a2e480c5", func := "headway/headkeep.ClosurePowers", spec := "closurePowers", apart := false }
def ClosurePowersSaid : Prop := closurePowersRow.holds Try.pinned (OpenSpec.ofChange closurePowersSpec)

/-- ITS FALSE NEIGHBOUR: 'it returns false'. Refute it at one input. -/
def closurePowersWrong : ChangeSpec := { name := "closurePowers", fn := fun _ => fun
  | [d] => { results := [.lit (.bool false)], args := [d] }
  | _ => none }
def ClosurePowersWrongFalsely : Prop := closurePowersRow.holds Try.pinned (OpenSpec.ofChange closurePowersWrong)

/- THE SECOND FORM. 'bulk': how many values and letters a reading holds, each counted each time it is reached (what is shared counts as often as it is met; a slice's spare places count too). A statement '..UptoSaid' is the law's where the arguments, and the package variables that the reading takes, are together of bulk at most 1048576: NARROWER than '..Said'. Prove '..Said' where nothing that the law and all that it calls make is longer than what came in: it says more and counts as full. Else prove '..UptoSaid'. A law counts once. -/
mutual
def uptoBulk {H : Type} : DataW H → Nat
  | .lit (.string bytes) => bytes.length + 1
  | .lit _ => 1
  | .nil => 1
  | .ptr d => uptoBulk d + 1
  | .slice elems spare => uptoBulkAll elems + uptoBulkAll spare + 1
  | .agg parts => uptoBulkAll parts + 1
  | .iface _ d => uptoBulk d + 1
  | .map entries => uptoBulkEntries entries + 1
  | .held _ => 1
def uptoBulkAll {H : Type} : List (DataW H) → Nat
  | [] => 0
  | d :: r => uptoBulk d + uptoBulkAll r
def uptoBulkEntries {H : Type} : List (Lit × DataW H) → Nat
  | [] => 0
  | x :: r => uptoBulkEntry x + uptoBulkEntries r
def uptoBulkEntry {H : Type} : Lit × DataW H → Nat
  | (.string bytes, d) => bytes.length + uptoBulk d + 1
  | (_, d) => uptoBulk d + 1
 end
def uptoSmall : (H : Type) → List (DataW H) → Bool := fun _ ds => decide (uptoBulkAll ds ≤ 1048576)
def OpenSpec.upto (s : _root_.Go.ChangeSpec) : _root_.Go.OpenSpec := { _root_.Go.OpenSpec.ofChange s with cond := some uptoSmall }

/-- 'headkeep.ConvOrders', WHERE WHAT IT READS IS OF BULK AT MOST 1048576: true; the input reads as it did. -/
def convOrdersUptoRow : OpenClaim := { program := "ytkofgejkicjdoaa", sum := "fbc1b2aaa1c9cee1d3bdf5e007c552caca220ac2fee231ce57eb59a5a2e480c5", func := "headway/headkeep.ConvOrders", spec := "convOrders", apart := false, narrowed := true }
def ConvOrdersUptoSaid : Prop := convOrdersUptoRow.holds Try.pinned (OpenSpec.upto convOrdersSpec)

/-- 'headkeep.ConvCuts', WHERE WHAT IT READS IS OF BULK AT MOST 1048576: true; the input reads as it did. -/
def convCutsUptoRow : OpenClaim := { program := "ytkofgejkicjdoaa", sum := "fbc1b2aaa1c9cee1d3bdf5e007c552caca220ac2fee231ce57eb59a5a2e480c5", func := "headway/headkeep.ConvCuts", spec := "convCuts", apart := false, narrowed := true }
def ConvCutsUptoSaid : Prop := convCutsUptoRow.holds Try.pinned (OpenSpec.upto convCutsSpec)

/-- 'headkeep.ConvMin', WHERE WHAT IT READS IS OF BULK AT MOST 1048576: true; the input reads as it did. -/
def convMinUptoRow : OpenClaim := { program := "ytkofgejkicjdoaa", sum := "fbc1b2aaa1c9cee1d3bdf5e007c552caca220ac2fee231ce57eb59a5a2e480c5", func := "headway/headkeep.ConvMin", spec := "convMin", unfollowed := true, recurses := true, apart := false, narrowed := true }
def ConvMinUptoSaid : Prop := convMinUptoRow.holds Try.pinned (OpenSpec.upto convMinSpec)

/-- 'headkeep.ConvUp', WHERE WHAT IT READS IS OF BULK AT MOST 1048576: true; the input reads as it did. -/
def convUpUptoRow : OpenClaim := { program := "ytkofgejkicjdoaa", sum := "fbc1b2aaa1c9cee1d3bdf5e007c552caca220ac2fee231ce57eb59a5a2e480c5", func := "headway/headkeep.ConvUp", spec := "convUp", apart := false, narrowed := true }
def ConvUpUptoSaid : Prop := convUpUptoRow.holds Try.pinned (OpenSpec.upto convUpSpec)

/-- 'headkeep.ConvPowers', WHERE WHAT IT READS IS OF BULK AT MOST 1048576: true; the input reads as it did. -/
def convPowersUptoRow : OpenClaim := { program := "ytkofgejkicjdoaa", sum := "fbc1b2aaa1c9cee1d3bdf5e007c552caca220ac2fee231ce57eb59a5a2e480c5", func := "headway/headkeep.ConvPowers", spec := "convPowers", apart := false, narrowed := true }
def ConvPowersUptoSaid : Prop := convPowersUptoRow.holds Try.pinned (OpenSpec.upto convPowersSpec)

/-- 'headkeep.ConvGrows', WHERE WHAT IT READS IS OF BULK AT MOST 1048576: true; the input reads as it did. -/
def convGrowsUptoRow : OpenClaim := { program := "ytkofgejkicjdoaa", sum := "fbc1b2aaa1c9cee1d3bdf5e007c552caca220ac2fee231ce57eb59a5a2e480c5", func := "headway/headkeep.ConvGrows", spec := "convGrows", apart := false, narrowed := true }
def ConvGrowsUptoSaid : Prop := convGrowsUptoRow.holds Try.pinned (OpenSpec.upto convGrowsSpec)

/-- 'headkeep.DeconvGrows', WHERE WHAT IT READS IS OF BULK AT MOST 1048576: true; the input reads as it did. -/
def deconvGrowsUptoRow : OpenClaim := { program := "ytkofgejkicjdoaa", sum := "fbc1b2aaa1c9cee1d3bdf5e007c552caca220ac2fee231ce57eb59a5a2e480c5", func := "headway/headkeep.DeconvGrows", spec := "deconvGrows", apart := false, narrowed := true }
def DeconvGrowsUptoSaid : Prop := deconvGrowsUptoRow.holds Try.pinned (OpenSpec.upto deconvGrowsSpec)

/-- 'headkeep.DeconvMax', WHERE WHAT IT READS IS OF BULK AT MOST 1048576: true; the input reads as it did. -/
def deconvMaxUptoRow : OpenClaim := { program := "ytkofgejkicjdoaa", sum := "fbc1b2aaa1c9cee1d3bdf5e007c552caca220ac2fee231ce57eb59a5a2e480c5", func := "headway/headkeep.DeconvMax", spec := "deconvMax", unfollowed := true, recurses := true, apart := false, narrowed := true }
def DeconvMaxUptoSaid : Prop := deconvMaxUptoRow.holds Try.pinned (OpenSpec.upto deconvMaxSpec)

/-- 'headkeep.DeconvTwice', WHERE WHAT IT READS IS OF BULK AT MOST 1048576: true; the input reads as it did. -/
def deconvTwiceUptoRow : OpenClaim := { program := "ytkofgejkicjdoaa", sum := "fbc1b2aaa1c9cee1d3bdf5e007c552caca220ac2fee231ce57eb59a5a2e480c5", func := "headway/headkeep.DeconvTwice", spec := "deconvTwice", apart := false, narrowed := true }
def DeconvTwiceUptoSaid : Prop := deconvTwiceUptoRow.holds Try.pinned (OpenSpec.upto deconvTwiceSpec)

/-- 'headkeep.DeconvGalois', WHERE WHAT IT READS IS OF BULK AT MOST 1048576: true; the input reads as it did. -/
def deconvGaloisUptoRow : OpenClaim := { program := "ytkofgejkicjdoaa", sum := "fbc1b2aaa1c9cee1d3bdf5e007c552caca220ac2fee231ce57eb59a5a2e480c5", func := "headway/headkeep.DeconvGalois", spec := "deconvGalois", apart := false, narrowed := true }
def DeconvGaloisUptoSaid : Prop := deconvGaloisUptoRow.holds Try.pinned (OpenSpec.upto deconvGaloisSpec)

/-- 'headkeep.PointLates', WHERE WHAT IT READS IS OF BULK AT MOST 1048576: true; the input reads as it did. -/
def pointLatesUptoRow : OpenClaim := { program := "ytkofgejkicjdoaa", sum := "fbc1b2aaa1c9cee1d3bdf5e007c552caca220ac2fee231ce57eb59a5a2e480c5", func := "headway/headkeep.PointLates", spec := "pointLates", unfollowed := true, recurses := true, apart := false, narrowed := true }
def PointLatesUptoSaid : Prop := pointLatesUptoRow.holds Try.pinned (OpenSpec.upto pointLatesSpec)

/-- 'headkeep.ClosurePowers', WHERE WHAT IT READS IS OF BULK AT MOST 1048576: true; the input reads as it did. -/
def closurePowersUptoRow : OpenClaim := { program := "ytkofgejkicjdoaa", sum := "fbc1b2aaa1c9cee1d3bdf5e007c552caca220ac2fee231ce57eb59a5a2e480c5", func := "headway/headkeep.ClosurePowers", spec := "closurePowers", apart := false, narrowed := true }
def ClosurePowersUptoSaid : Prop := closurePowersUptoRow.holds Try.pinned (OpenSpec.upto closurePowersSpec)

end Rows
end Go.Proofs.Ytkofgejkicjdoaa
