/-
  No cell of these rows narrows 'for every input' (looked for: loops, veiled, ifaces, maps, wideKeys, modest, calm, conditions, laid).
  DERIVED. THE GIVEN ROWS OF THIS SEAT. 11 by the template 'for every input the law returns true; each argument reads behind the call as it read before'; 0 by the template 'total and deterministic' (their statements: YtpehhbiodmgjeaaTotals.lean).
  GIVEN WITH THE SEED: the statements are not yours to turn. If you find one false, say at which input.
  Laid BY PROGRAM, IN A SANDBOX (cutbox-rows.mjs): the forced cells as the released guide's own fill.sh prints them over the translation 0164eca12ba34065… (all of the seat's roots in one cut). By AI agents, Wed Nov 11 2026. No macro, syntax, notation, axiom, sorry.
-/
import Derived.Test.YtpehhbiodmgjeaaChecked
import GoSem.Claim
import GoSem.ClaimJoined
import GoSem.ClaimMapViews
import Derived.JoinedTies
import Derived.KernelRfl
namespace Go.Proofs.Ytpehhbiodmgjeaa
/- THE CELL 'sum', in the pinned program and in every row, IS THE sha256 OF THE DUMP (.gsa) THAT YtpehhbiodmgjeaaProg.lean LOADS. Nothing in Lean hashes anything: it is a label: what it is worth is what the hold of that sum in a sandbox is worth. -/
noncomputable def Try.pinned : Pinned := { name := "ytpehhbiodmgjeaa", sum := "0164eca12ba340658a93ad9450f9091642fe32676c2d2fd05566946b89076453", checked := Try.checked }
namespace Rows
def none {H : Type} : Left H := { results := [], args := [] }

/-- 'dibberlaw08.ShareLeast': WHATEVER THE INPUT: true; the input reads as it did. -/
def shareLeastSpec : ChangeSpec := { name := "shareLeast", fn := fun _ => fun
  | [d1, d2] => { results := [.lit (.bool true)], args := [d1, d2] }
  | _ => none }
def shareLeastRow : OpenClaim := { program := "ytpehhbiodmgjeaa", sum := "0164eca12ba340658a93ad9450f9091642fe32676c2d2fd05566946b89076453", func := "dibber/dibberlaw08.ShareLeast", spec := "shareLeast", unfollowed := true, recurses := true, apart := false }
def ShareLeastSaid : Prop := shareLeastRow.holds Try.pinned (OpenSpec.ofChange shareLeastSpec)

/-- ITS FALSE NEIGHBOUR: 'it returns false'. Refute it at one input. -/
def shareLeastWrong : ChangeSpec := { name := "shareLeast", fn := fun _ => fun
  | [d1, d2] => { results := [.lit (.bool false)], args := [d1, d2] }
  | _ => none }
def ShareLeastWrongFalsely : Prop := shareLeastRow.holds Try.pinned (OpenSpec.ofChange shareLeastWrong)

/-- 'dibberlaw08.ShareLattice': WHATEVER THE INPUT: true; the input reads as it did. -/
def shareLatticeSpec : ChangeSpec := { name := "shareLattice", fn := fun _ => fun
  | [d1, d2, d3, d4] => { results := [.lit (.bool true)], args := [d1, d2, d3, d4] }
  | _ => none }
def shareLatticeRow : OpenClaim := { program := "ytpehhbiodmgjeaa", sum := "0164eca12ba340658a93ad9450f9091642fe32676c2d2fd05566946b89076453", func := "dibber/dibberlaw08.ShareLattice", spec := "shareLattice", unfollowed := true, recurses := true, apart := false }
def ShareLatticeSaid : Prop := shareLatticeRow.holds Try.pinned (OpenSpec.ofChange shareLatticeSpec)

/-- ITS FALSE NEIGHBOUR: 'it returns false'. Refute it at one input. -/
def shareLatticeWrong : ChangeSpec := { name := "shareLattice", fn := fun _ => fun
  | [d1, d2, d3, d4] => { results := [.lit (.bool false)], args := [d1, d2, d3, d4] }
  | _ => none }
def ShareLatticeWrongFalsely : Prop := shareLatticeRow.holds Try.pinned (OpenSpec.ofChange shareLatticeWrong)

/-- 'dibberlaw08.ShareCuts': WHATEVER THE INPUT: true; the input reads as it did. -/
def shareCutsSpec : ChangeSpec := { name := "shareCuts", fn := fun _ => fun
  | [d1, d2] => { results := [.lit (.bool true)], args := [d1, d2] }
  | _ => none }
def shareCutsRow : OpenClaim := { program := "ytpehhbiodmgjeaa", sum := "0164eca12ba340658a93ad9450f9091642fe32676c2d2fd05566946b89076453", func := "dibber/dibberlaw08.ShareCuts", spec := "shareCuts", unfollowed := true, recurses := true, apart := false }
def ShareCutsSaid : Prop := shareCutsRow.holds Try.pinned (OpenSpec.ofChange shareCutsSpec)

/-- ITS FALSE NEIGHBOUR: 'it returns false'. Refute it at one input. -/
def shareCutsWrong : ChangeSpec := { name := "shareCuts", fn := fun _ => fun
  | [d1, d2] => { results := [.lit (.bool false)], args := [d1, d2] }
  | _ => none }
def ShareCutsWrongFalsely : Prop := shareCutsRow.holds Try.pinned (OpenSpec.ofChange shareCutsWrong)

/-- 'dibberlaw08.ShareChecks': WHATEVER THE INPUT: true; the input reads as it did. -/
def shareChecksSpec : ChangeSpec := { name := "shareChecks", fn := fun _ => fun
  | [d1, d2, d3] => { results := [.lit (.bool true)], args := [d1, d2, d3] }
  | _ => none }
def shareChecksRow : OpenClaim := { program := "ytpehhbiodmgjeaa", sum := "0164eca12ba340658a93ad9450f9091642fe32676c2d2fd05566946b89076453", func := "dibber/dibberlaw08.ShareChecks", spec := "shareChecks", unfollowed := true, recurses := true, apart := false }
def ShareChecksSaid : Prop := shareChecksRow.holds Try.pinned (OpenSpec.ofChange shareChecksSpec)

/-- ITS FALSE NEIGHBOUR: 'it returns false'. Refute it at one input. -/
def shareChecksWrong : ChangeSpec := { name := "shareChecks", fn := fun _ => fun
  | [d1, d2, d3] => { results := [.lit (.bool false)], args := [d1, d2, d3] }
  | _ => none }
def ShareChecksWrongFalsely : Prop := shareChecksRow.holds Try.pinned (OpenSpec.ofChange shareChecksWrong)

/-- 'dibberlaw08.ShareEdmonds': WHATEVER THE INPUT: true; the input reads as it did. -/
def shareEdmondsSpec : ChangeSpec := { name := "shareEdmonds", fn := fun _ => fun
  | [d1, d2, d3, d4] => { results := [.lit (.bool true)], args := [d1, d2, d3, d4] }
  | _ => none }
def shareEdmondsRow : OpenClaim := { program := "ytpehhbiodmgjeaa", sum := "0164eca12ba340658a93ad9450f9091642fe32676c2d2fd05566946b89076453", func := "dibber/dibberlaw08.ShareEdmonds", spec := "shareEdmonds", unfollowed := true, recurses := true, apart := false }
def ShareEdmondsSaid : Prop := shareEdmondsRow.holds Try.pinned (OpenSpec.ofChange shareEdmondsSpec)

/-- ITS FALSE NEIGHBOUR: 'it returns false'. Refute it at one input. -/
def shareEdmondsWrong : ChangeSpec := { name := "shareEdmonds", fn := fun _ => fun
  | [d1, d2, d3, d4] => { results := [.lit (.bool false)], args := [d1, d2, d3, d4] }
  | _ => none }
def ShareEdmondsWrongFalsely : Prop := shareEdmondsRow.holds Try.pinned (OpenSpec.ofChange shareEdmondsWrong)

/-- 'dibberlaw08.ShareFair': WHATEVER THE INPUT: true; the input reads as it did. -/
def shareFairSpec : ChangeSpec := { name := "shareFair", fn := fun _ => fun
  | [d1, d2, d3] => { results := [.lit (.bool true)], args := [d1, d2, d3] }
  | _ => none }
def shareFairRow : OpenClaim := { program := "ytpehhbiodmgjeaa", sum := "0164eca12ba340658a93ad9450f9091642fe32676c2d2fd05566946b89076453", func := "dibber/dibberlaw08.ShareFair", spec := "shareFair", unfollowed := true, recurses := true, apart := false }
def ShareFairSaid : Prop := shareFairRow.holds Try.pinned (OpenSpec.ofChange shareFairSpec)

/-- ITS FALSE NEIGHBOUR: 'it returns false'. Refute it at one input. -/
def shareFairWrong : ChangeSpec := { name := "shareFair", fn := fun _ => fun
  | [d1, d2, d3] => { results := [.lit (.bool false)], args := [d1, d2, d3] }
  | _ => none }
def ShareFairWrongFalsely : Prop := shareFairRow.holds Try.pinned (OpenSpec.ofChange shareFairWrong)

/-- 'dibberlaw08.ShareHedges': WHATEVER THE INPUT: true; the input reads as it did. -/
def shareHedgesSpec : ChangeSpec := { name := "shareHedges", fn := fun _ => fun
  | [d1, d2, d3] => { results := [.lit (.bool true)], args := [d1, d2, d3] }
  | _ => none }
def shareHedgesRow : OpenClaim := { program := "ytpehhbiodmgjeaa", sum := "0164eca12ba340658a93ad9450f9091642fe32676c2d2fd05566946b89076453", func := "dibber/dibberlaw08.ShareHedges", spec := "shareHedges", unfollowed := true, recurses := true, apart := false }
def ShareHedgesSaid : Prop := shareHedgesRow.holds Try.pinned (OpenSpec.ofChange shareHedgesSpec)

/-- ITS FALSE NEIGHBOUR: 'it returns false'. Refute it at one input. -/
def shareHedgesWrong : ChangeSpec := { name := "shareHedges", fn := fun _ => fun
  | [d1, d2, d3] => { results := [.lit (.bool false)], args := [d1, d2, d3] }
  | _ => none }
def ShareHedgesWrongFalsely : Prop := shareHedgesRow.holds Try.pinned (OpenSpec.ofChange shareHedgesWrong)

/-- 'dibberlaw08.ShareWeights': WHATEVER THE INPUT: true; the input reads as it did. -/
def shareWeightsSpec : ChangeSpec := { name := "shareWeights", fn := fun _ => fun
  | [d1, d2, d3] => { results := [.lit (.bool true)], args := [d1, d2, d3] }
  | _ => none }
def shareWeightsRow : OpenClaim := { program := "ytpehhbiodmgjeaa", sum := "0164eca12ba340658a93ad9450f9091642fe32676c2d2fd05566946b89076453", func := "dibber/dibberlaw08.ShareWeights", spec := "shareWeights", unfollowed := true, recurses := true, apart := false }
def ShareWeightsSaid : Prop := shareWeightsRow.holds Try.pinned (OpenSpec.ofChange shareWeightsSpec)

/-- ITS FALSE NEIGHBOUR: 'it returns false'. Refute it at one input. -/
def shareWeightsWrong : ChangeSpec := { name := "shareWeights", fn := fun _ => fun
  | [d1, d2, d3] => { results := [.lit (.bool false)], args := [d1, d2, d3] }
  | _ => none }
def ShareWeightsWrongFalsely : Prop := shareWeightsRow.holds Try.pinned (OpenSpec.ofChange shareWeightsWrong)

/-- 'dibberlaw08.ShareLovasz': WHATEVER THE INPUT: true; the input reads as it did. -/
def shareLovaszSpec : ChangeSpec := { name := "shareLovasz", fn := fun _ => fun
  | [d1, d2, d3, d4, d5, d6] => { results := [.lit (.bool true)], args := [d1, d2, d3, d4, d5, d6] }
  | _ => none }
def shareLovaszRow : OpenClaim := { program := "ytpehhbiodmgjeaa", sum := "0164eca12ba340658a93ad9450f9091642fe32676c2d2fd05566946b89076453", func := "dibber/dibberlaw08.ShareLovasz", spec := "shareLovasz", unfollowed := true, recurses := true, apart := false }
def ShareLovaszSaid : Prop := shareLovaszRow.holds Try.pinned (OpenSpec.ofChange shareLovaszSpec)

/-- ITS FALSE NEIGHBOUR: 'it returns false'. Refute it at one input. -/
def shareLovaszWrong : ChangeSpec := { name := "shareLovasz", fn := fun _ => fun
  | [d1, d2, d3, d4, d5, d6] => { results := [.lit (.bool false)], args := [d1, d2, d3, d4, d5, d6] }
  | _ => none }
def ShareLovaszWrongFalsely : Prop := shareLovaszRow.holds Try.pinned (OpenSpec.ofChange shareLovaszWrong)

/-- 'dibberlaw08.ShareGreedy': WHATEVER THE INPUT: true; the input reads as it did. -/
def shareGreedySpec : ChangeSpec := { name := "shareGreedy", fn := fun _ => fun
  | [d1, d2, d3] => { results := [.lit (.bool true)], args := [d1, d2, d3] }
  | _ => none }
def shareGreedyRow : OpenClaim := { program := "ytpehhbiodmgjeaa", sum := "0164eca12ba340658a93ad9450f9091642fe32676c2d2fd05566946b89076453", func := "dibber/dibberlaw08.ShareGreedy", spec := "shareGreedy", unfollowed := true, recurses := true, apart := false }
def ShareGreedySaid : Prop := shareGreedyRow.holds Try.pinned (OpenSpec.ofChange shareGreedySpec)

/-- ITS FALSE NEIGHBOUR: 'it returns false'. Refute it at one input. -/
def shareGreedyWrong : ChangeSpec := { name := "shareGreedy", fn := fun _ => fun
  | [d1, d2, d3] => { results := [.lit (.bool false)], args := [d1, d2, d3] }
  | _ => none }
def ShareGreedyWrongFalsely : Prop := shareGreedyRow.holds Try.pinned (OpenSpec.ofChange shareGreedyWrong)

/-- 'dibberlaw08.ShareCorners': WHATEVER THE INPUT: true; the input reads as it did. -/
def shareCornersSpec : ChangeSpec := { name := "shareCorners", fn := fun _ => fun
  | [d1, d2, d3, d4, d5] => { results := [.lit (.bool true)], args := [d1, d2, d3, d4, d5] }
  | _ => none }
def shareCornersRow : OpenClaim := { program := "ytpehhbiodmgjeaa", sum := "0164eca12ba340658a93ad9450f9091642fe32676c2d2fd05566946b89076453", func := "dibber/dibberlaw08.ShareCorners", spec := "shareCorners", unfollowed := true, recurses := true, apart := false }
def ShareCornersSaid : Prop := shareCornersRow.holds Try.pinned (OpenSpec.ofChange shareCornersSpec)

/-- ITS FALSE NEIGHBOUR: 'it returns false'. Refute it at one input. -/
def shareCornersWrong : ChangeSpec := { name := "shareCorners", fn := fun _ => fun
  | [d1, d2, d3, d4, d5] => { results := [.lit (.bool false)], args := [d1, d2, d3, d4, d5] }
  | _ => none }
def ShareCornersWrongFalsely : Prop := shareCornersRow.holds Try.pinned (OpenSpec.ofChange shareCornersWrong)

/- THE SECOND FORM. 'bulk': how many values and letters a reading holds, each counted each time it is reached (what is shared counts as often as it is met; a slice's spare places count too). A statement '..UptoSaid' is the law's where the arguments, and the package variables that the reading takes, are together of bulk at most 1048576: NARROWER than '..Said'. Prove '..Said' where nothing that the law and all that it calls make is longer than what came in: it says more and counts as full. Else prove '..UptoSaid'. A law counts once. -/
mutual
def uptoBulk {H : Type} : DataW H → Nat
  | .lit (.string bytes) => bytes.length + 1
  | .lit _ => 1
  | .nil => 1
  | .ptr d => uptoBulk d + 1
  | .slice elems spare => uptoBulkAll elems + uptoBulkAll spare + 1
  | .agg parts => uptoBulkAll parts + 1
  | .iface _ d => uptoBulk d + 1
  | .map entries => uptoBulkEntries entries + 1
  | .held _ => 1
def uptoBulkAll {H : Type} : List (DataW H) → Nat
  | [] => 0
  | d :: r => uptoBulk d + uptoBulkAll r
def uptoBulkEntries {H : Type} : List (Lit × DataW H) → Nat
  | [] => 0
  | x :: r => uptoBulkEntry x + uptoBulkEntries r
def uptoBulkEntry {H : Type} : Lit × DataW H → Nat
  | (.string bytes, d) => bytes.length + uptoBulk d + 1
  | (_, d) => uptoBulk d + 1
 end
def uptoSmall : (H : Type) → List (DataW H) → Bool := fun _ ds => decide (uptoBulkAll ds ≤ 1048576)
def OpenSpec.upto (s : _root_.Go.ChangeSpec) : _root_.Go.OpenSpec := { _root_.Go.OpenSpec.ofChange s with cond := some uptoSmall }

/-- 'dibberlaw08.ShareLeast', WHERE WHAT IT READS IS OF BULK AT MOST 1048576: true; the input reads as it did. -/
def shareLeastUptoRow : OpenClaim := { program := "ytpehhbiodmgjeaa", sum := "0164eca12ba340658a93ad9450f9091642fe32676c2d2fd05566946b89076453", func := "dibber/dibberlaw08.ShareLeast", spec := "shareLeast", unfollowed := true, recurses := true, apart := false, narrowed := true }
def ShareLeastUptoSaid : Prop := shareLeastUptoRow.holds Try.pinned (OpenSpec.upto shareLeastSpec)

/-- 'dibberlaw08.ShareLattice', WHERE WHAT IT READS IS OF BULK AT MOST 1048576: true; the input reads as it did. -/
def shareLatticeUptoRow : OpenClaim := { program := "ytpehhbiodmgjeaa", sum := "0164eca12ba340658a93ad9450f9091642fe32676c2d2fd05566946b89076453", func := "dibber/dibberlaw08.ShareLattice", spec := "shareLattice", unfollowed := true, recurses := true, apart := false, narrowed := true }
def ShareLatticeUptoSaid : Prop := shareLatticeUptoRow.holds Try.pinned (OpenSpec.upto shareLatticeSpec)

/-- 'dibberlaw08.ShareCuts', WHERE WHAT IT READS IS OF BULK AT MOST 1048576: true; the input reads as it did. -/
def shareCutsUptoRow : OpenClaim := { program := "ytpehhbiodmgjeaa", sum := "0164eca12ba340658a93ad9450f9091642fe32676c2d2fd05566946b89076453", func := "dibber/dibberlaw08.ShareCuts", spec := "shareCuts", unfollowed := true, recurses := true, apart := false, narrowed := true }
def ShareCutsUptoSaid : Prop := shareCutsUptoRow.holds Try.pinned (OpenSpec.upto shareCutsSpec)

/-- 'dibberlaw08.ShareChecks', WHERE WHAT IT READS IS OF BULK AT MOST 1048576: true; the input reads as it did. -/
def shareChecksUptoRow : OpenClaim := { program := "ytpehhbiodmgjeaa", sum := "0164eca12ba340658a93ad9450f9091642fe32676c2d2fd05566946b89076453", func := "dibber/dibberlaw08.ShareChecks", spec := "shareChecks", unfollowed := true, recurses := true, apart := false, narrowed := true }
def ShareChecksUptoSaid : Prop := shareChecksUptoRow.holds Try.pinned (OpenSpec.upto shareChecksSpec)

/-- 'dibberlaw08.ShareEdmonds', WHERE WHAT IT READS IS OF BULK AT MOST 1048576: true; the input reads as it did. -/
def shareEdmondsUptoRow : OpenClaim := { program := "ytpehhbiodmgjeaa", sum := "0164eca12ba340658a93ad9450f9091642fe32676c2d2fd05566946b89076453", func := "dibber/dibberlaw08.ShareEdmonds", spec := "shareEdmonds", unfollowed := true, recurses := true, apart := false, narrowed := true }
def ShareEdmondsUptoSaid : Prop := shareEdmondsUptoRow.holds Try.pinned (OpenSpec.upto shareEdmondsSpec)

/-- 'dibberlaw08.ShareFair', WHERE WHAT IT READS IS OF BULK AT MOST 1048576: true; the input reads as it did. -/
def shareFairUptoRow : OpenClaim := { program := "ytpehhbiodmgjeaa", sum := "0164eca12ba340658a93ad9450f9091642fe32676c2d2fd05566946b89076453", func := "dibber/dibberlaw08.ShareFair", spec := "shareFair", unfollowed := true, recurses := true, apart := false, narrowed := true }
def ShareFairUptoSaid : Prop := shareFairUptoRow.holds Try.pinned (OpenSpec.upto shareFairSpec)

/-- 'dibberlaw08.ShareHedges', WHERE WHAT IT READS IS OF BULK AT MOST 1048576: true; the input reads as it did. -/
def shareHedgesUptoRow : OpenClaim := { program := "ytpehhbiodmgjeaa", sum := "0164eca12ba340658a93ad9450f9091642fe32676c2d2fd05566946b89076453", func := "dibber/dibberlaw08.ShareHedges", spec := "shareHedges", unfollowed := true, recurses := true, apart := false, narrowed := true }
def ShareHedgesUptoSaid : Prop := shareHedgesUptoRow.holds Try.pinned (OpenSpec.upto shareHedgesSpec)

/-- 'dibberlaw08.ShareWeights', WHERE WHAT IT READS IS OF BULK AT MOST 1048576: true; the input reads as it did. -/
def shareWeightsUptoRow : OpenClaim := { program := "ytpehhbiodmgjeaa", sum := "0164eca12ba340658a93ad9450f9091642fe32676c2d2fd05566946b89076453", func := "dibber/dibberlaw08.ShareWeights", spec := "shareWeights", unfollowed := true, recurses := true, apart := false, narrowed := true }
def ShareWeightsUptoSaid : Prop := shareWeightsUptoRow.holds Try.pinned (OpenSpec.upto shareWeightsSpec)

/-- 'dibberlaw08.ShareLovasz', WHERE WHAT IT READS IS OF BULK AT MOST 1048576: true; the input reads as it did. -/
def shareLovaszUptoRow : OpenClaim := { program := "ytpehhbiodmgjeaa", sum := "0164eca12ba340658a93ad9450f9091642fe32676c2d2fd05566946b89076453", func := "dibber/dibberlaw08.ShareLovasz", spec := "shareLovasz", unfollowed := true, recurses := true, apart := false, narrowed := true }
def ShareLovaszUptoSaid : Prop := shareLovaszUptoRow.holds Try.pinned (OpenSpec.upto shareLovaszSpec)

/-- 'dibberlaw08.ShareGreedy', WHERE WHAT IT READS IS OF BULK AT MOST 1048576: true; the input reads as it did. -/
def shareGreedyUptoRow : OpenClaim := { program := "ytpehhbiodmgjeaa", sum := "0164eca12ba340658a93ad9450f9091642fe32676c2d2fd05566946b89076453", func := "dibber/dibberlaw08.ShareGreedy", spec := "shareGreedy", unfollowed := true, recurses := true, apart := false, narrowed := true }
def ShareGreedyUptoSaid : Prop := shareGreedyUptoRow.holds Try.pinned (OpenSpec.upto shareGreedySpec)

/-- 'dibberlaw08.ShareCorners', WHERE WHAT IT READS IS OF BULK AT MOST 1048576: true; the input reads as it did. -/
def shareCornersUptoRow : OpenClaim := { program := "ytpehhbiodmgjeaa", sum := "0164eca12ba340658a93ad9450f9091642fe32676c2d2fd05566946b89076453", func := "dibber/dibberlaw08.ShareCorners", spec := "shareCorners", unfollowed := true, recurses := true, apart := false, narrowed := true }
def ShareCornersUptoSaid : Prop := shareCornersUptoRow.holds Try.pinned (OpenSpec.upto shareCornersSpec)

end Rows
end Go.Proofs.Ytpehhbiodmgjeaa
