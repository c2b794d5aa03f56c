/-
  NARROWER THAN 'FOR EVERY INPUT', by the rows' own cells (each row's printed sentence says how): BedFills: laid · BedParted: laid · BedChecks: laid · BedTransversals: laid · BedMates: laid · BedPairs: laid · BedCounts: laid · BedFinished: laid · BedCyclic: laid · BedTurns: laid · BedTurned: laid · BedRows: laid · BedHall: laid.
  DERIVED. THE GIVEN ROWS OF THIS SEAT. 13 by the template 'for every input the law returns true; each argument reads behind the call as it read before'; 0 by the template 'total and deterministic' (their statements: YtiodednhadnekaaDoorTotals.lean).
  GIVEN WITH THE SEED: the statements are not yours to turn. If you find one false, say at which input.
  Laid BY PROGRAM, IN A SANDBOX (cutbox-rows.mjs): the forced cells as the released guide's own fill.sh prints them over the translation cd0f61e8fb9eaf44… (all of the seat's roots in one cut). By AI agents, Wed Nov 11 2026. No macro, syntax, notation, axiom, sorry.
-/
import Derived.Test.YtiodednhadnekaaDoorChecked
import GoSem.Claim
import GoSem.ClaimJoined
import GoSem.ClaimMapViews
import Derived.JoinedTies
import Derived.KernelRfl
namespace Go.Proofs.YtiodednhadnekaaDoor
/- THE CELL 'sum', in the pinned program and in every row, IS THE sha256 OF THE DUMP (.gsa) THAT YtiodednhadnekaaDoorProg.lean LOADS. Nothing in Lean hashes anything: it is a label: what it is worth is what the hold of that sum in a sandbox is worth. -/
noncomputable def Tryd.pinned : Pinned := { name := "ytiodednhadnekaadoor", sum := "cd0f61e8fb9eaf44c7b653bfcfb456ef03bc6960ac28debfea3a93cc343b400f", checked := Tryd.checked }
namespace Rows
def none {H : Type} : Left H := { results := [], args := [] }

/- WHAT THE LISTED PACKAGE-LEVEL VARIABLES READ AS WHEN THE CALL BEGINS. Each datum BY PROGRAM (the guide's laid-datum.mjs) off the statement by which the dump's own 'gosem.cut.vars' lays the variable. In a bare row this is a premise. The card (YtiodednhadnekaaDoorCards.lean) ties it to the program's text. -/
def laid_math_bits_deBruijn32tab {H : Type} : DataW H := .agg [.lit (.int .u8 0), .lit (.int .u8 1), .lit (.int .u8 28), .lit (.int .u8 2), .lit (.int .u8 29), .lit (.int .u8 14), .lit (.int .u8 24), .lit (.int .u8 3), .lit (.int .u8 30), .lit (.int .u8 22), .lit (.int .u8 20), .lit (.int .u8 15), .lit (.int .u8 25), .lit (.int .u8 17), .lit (.int .u8 4), .lit (.int .u8 8), .lit (.int .u8 31), .lit (.int .u8 27), .lit (.int .u8 13), .lit (.int .u8 23), .lit (.int .u8 21), .lit (.int .u8 19), .lit (.int .u8 16), .lit (.int .u8 7), .lit (.int .u8 26), .lit (.int .u8 12), .lit (.int .u8 18), .lit (.int .u8 6), .lit (.int .u8 11), .lit (.int .u8 5), .lit (.int .u8 10), .lit (.int .u8 9)]
def laid_math_bits_deBruijn64tab {H : Type} : DataW H := .agg [.lit (.int .u8 0), .lit (.int .u8 1), .lit (.int .u8 56), .lit (.int .u8 2), .lit (.int .u8 57), .lit (.int .u8 49), .lit (.int .u8 28), .lit (.int .u8 3), .lit (.int .u8 61), .lit (.int .u8 58), .lit (.int .u8 42), .lit (.int .u8 50), .lit (.int .u8 38), .lit (.int .u8 29), .lit (.int .u8 17), .lit (.int .u8 4), .lit (.int .u8 62), .lit (.int .u8 47), .lit (.int .u8 59), .lit (.int .u8 36), .lit (.int .u8 45), .lit (.int .u8 43), .lit (.int .u8 51), .lit (.int .u8 22), .lit (.int .u8 53), .lit (.int .u8 39), .lit (.int .u8 33), .lit (.int .u8 30), .lit (.int .u8 24), .lit (.int .u8 18), .lit (.int .u8 12), .lit (.int .u8 5), .lit (.int .u8 63), .lit (.int .u8 55), .lit (.int .u8 48), .lit (.int .u8 27), .lit (.int .u8 60), .lit (.int .u8 41), .lit (.int .u8 37), .lit (.int .u8 16), .lit (.int .u8 46), .lit (.int .u8 35), .lit (.int .u8 44), .lit (.int .u8 21), .lit (.int .u8 52), .lit (.int .u8 32), .lit (.int .u8 23), .lit (.int .u8 11), .lit (.int .u8 54), .lit (.int .u8 26), .lit (.int .u8 40), .lit (.int .u8 15), .lit (.int .u8 34), .lit (.int .u8 20), .lit (.int .u8 31), .lit (.int .u8 10), .lit (.int .u8 25), .lit (.int .u8 14), .lit (.int .u8 19), .lit (.int .u8 9), .lit (.int .u8 13), .lit (.int .u8 8), .lit (.int .u8 7), .lit (.int .u8 6)]

/-- 'dibberlaw01.BedFills': WHATEVER THE INPUT: true; the input reads as it did. -/
def bedFillsSpec : ChangeSpec := { name := "bedFills", fn := fun _ => fun
  | [d] => { results := [.lit (.bool true)], args := [d] }
  | _ => none }
def bedFillsRow : OpenClaim := { program := "ytiodednhadnekaadoor", sum := "cd0f61e8fb9eaf44c7b653bfcfb456ef03bc6960ac28debfea3a93cc343b400f", func := "dibber/dibberlaw01.BedFills", spec := "bedFills", unfollowed := true, recurses := true, named := ["math/bits.deBruijn32tab", "math/bits.deBruijn64tab"], plainKeys := false, apart := false, laid := [("math/bits.deBruijn32tab", laid_math_bits_deBruijn32tab), ("math/bits.deBruijn64tab", laid_math_bits_deBruijn64tab)] }
def BedFillsSaid : Prop := bedFillsRow.holds Tryd.pinned (OpenSpec.ofChange bedFillsSpec)

/-- ITS FALSE NEIGHBOUR: 'it returns false'. Refute it at one input. -/
def bedFillsWrong : ChangeSpec := { name := "bedFills", fn := fun _ => fun
  | [d] => { results := [.lit (.bool false)], args := [d] }
  | _ => none }
def BedFillsWrongFalsely : Prop := bedFillsRow.holds Tryd.pinned (OpenSpec.ofChange bedFillsWrong)

/-- 'dibberlaw01.BedParted': WHATEVER THE INPUT: true; the input reads as it did. -/
def bedPartedSpec : ChangeSpec := { name := "bedParted", fn := fun _ => fun
  | [d] => { results := [.lit (.bool true)], args := [d] }
  | _ => none }
def bedPartedRow : OpenClaim := { program := "ytiodednhadnekaadoor", sum := "cd0f61e8fb9eaf44c7b653bfcfb456ef03bc6960ac28debfea3a93cc343b400f", func := "dibber/dibberlaw01.BedParted", spec := "bedParted", unfollowed := true, recurses := true, named := ["math/bits.deBruijn32tab", "math/bits.deBruijn64tab"], plainKeys := false, apart := false, laid := [("math/bits.deBruijn32tab", laid_math_bits_deBruijn32tab), ("math/bits.deBruijn64tab", laid_math_bits_deBruijn64tab)] }
def BedPartedSaid : Prop := bedPartedRow.holds Tryd.pinned (OpenSpec.ofChange bedPartedSpec)

/-- ITS FALSE NEIGHBOUR: 'it returns false'. Refute it at one input. -/
def bedPartedWrong : ChangeSpec := { name := "bedParted", fn := fun _ => fun
  | [d] => { results := [.lit (.bool false)], args := [d] }
  | _ => none }
def BedPartedWrongFalsely : Prop := bedPartedRow.holds Tryd.pinned (OpenSpec.ofChange bedPartedWrong)

/-- 'dibberlaw01.BedChecks': WHATEVER THE INPUT: true; the input reads as it did. -/
def bedChecksSpec : ChangeSpec := { name := "bedChecks", fn := fun _ => fun
  | [d] => { results := [.lit (.bool true)], args := [d] }
  | _ => none }
def bedChecksRow : OpenClaim := { program := "ytiodednhadnekaadoor", sum := "cd0f61e8fb9eaf44c7b653bfcfb456ef03bc6960ac28debfea3a93cc343b400f", func := "dibber/dibberlaw01.BedChecks", spec := "bedChecks", unfollowed := true, recurses := true, named := ["math/bits.deBruijn32tab", "math/bits.deBruijn64tab"], plainKeys := false, apart := false, laid := [("math/bits.deBruijn32tab", laid_math_bits_deBruijn32tab), ("math/bits.deBruijn64tab", laid_math_bits_deBruijn64tab)] }
def BedChecksSaid : Prop := bedChecksRow.holds Tryd.pinned (OpenSpec.ofChange bedChecksSpec)

/-- ITS FALSE NEIGHBOUR: 'it returns false'. Refute it at one input. -/
def bedChecksWrong : ChangeSpec := { name := "bedChecks", fn := fun _ => fun
  | [d] => { results := [.lit (.bool false)], args := [d] }
  | _ => none }
def BedChecksWrongFalsely : Prop := bedChecksRow.holds Tryd.pinned (OpenSpec.ofChange bedChecksWrong)

/-- 'dibberlaw01.BedTransversals': WHATEVER THE INPUT: true; the input reads as it did. -/
def bedTransversalsSpec : ChangeSpec := { name := "bedTransversals", fn := fun _ => fun
  | [d] => { results := [.lit (.bool true)], args := [d] }
  | _ => none }
def bedTransversalsRow : OpenClaim := { program := "ytiodednhadnekaadoor", sum := "cd0f61e8fb9eaf44c7b653bfcfb456ef03bc6960ac28debfea3a93cc343b400f", func := "dibber/dibberlaw01.BedTransversals", spec := "bedTransversals", unfollowed := true, recurses := true, named := ["math/bits.deBruijn32tab", "math/bits.deBruijn64tab"], plainKeys := false, apart := false, laid := [("math/bits.deBruijn32tab", laid_math_bits_deBruijn32tab), ("math/bits.deBruijn64tab", laid_math_bits_deBruijn64tab)] }
def BedTransversalsSaid : Prop := bedTransversalsRow.holds Tryd.pinned (OpenSpec.ofChange bedTransversalsSpec)

/-- ITS FALSE NEIGHBOUR: 'it returns false'. Refute it at one input. -/
def bedTransversalsWrong : ChangeSpec := { name := "bedTransversals", fn := fun _ => fun
  | [d] => { results := [.lit (.bool false)], args := [d] }
  | _ => none }
def BedTransversalsWrongFalsely : Prop := bedTransversalsRow.holds Tryd.pinned (OpenSpec.ofChange bedTransversalsWrong)

/-- 'dibberlaw01.BedMates': WHATEVER THE INPUT: true; the input reads as it did. -/
def bedMatesSpec : ChangeSpec := { name := "bedMates", fn := fun _ => fun
  | [d1, d2] => { results := [.lit (.bool true)], args := [d1, d2] }
  | _ => none }
def bedMatesRow : OpenClaim := { program := "ytiodednhadnekaadoor", sum := "cd0f61e8fb9eaf44c7b653bfcfb456ef03bc6960ac28debfea3a93cc343b400f", func := "dibber/dibberlaw01.BedMates", spec := "bedMates", unfollowed := true, recurses := true, named := ["math/bits.deBruijn32tab", "math/bits.deBruijn64tab"], plainKeys := false, apart := false, laid := [("math/bits.deBruijn32tab", laid_math_bits_deBruijn32tab), ("math/bits.deBruijn64tab", laid_math_bits_deBruijn64tab)] }
def BedMatesSaid : Prop := bedMatesRow.holds Tryd.pinned (OpenSpec.ofChange bedMatesSpec)

/-- ITS FALSE NEIGHBOUR: 'it returns false'. Refute it at one input. -/
def bedMatesWrong : ChangeSpec := { name := "bedMates", fn := fun _ => fun
  | [d1, d2] => { results := [.lit (.bool false)], args := [d1, d2] }
  | _ => none }
def BedMatesWrongFalsely : Prop := bedMatesRow.holds Tryd.pinned (OpenSpec.ofChange bedMatesWrong)

/-- 'dibberlaw01.BedPairs': WHATEVER THE INPUT: true; the input reads as it did. -/
def bedPairsSpec : ChangeSpec := { name := "bedPairs", fn := fun _ => fun
  | [d1, d2] => { results := [.lit (.bool true)], args := [d1, d2] }
  | _ => none }
def bedPairsRow : OpenClaim := { program := "ytiodednhadnekaadoor", sum := "cd0f61e8fb9eaf44c7b653bfcfb456ef03bc6960ac28debfea3a93cc343b400f", func := "dibber/dibberlaw01.BedPairs", spec := "bedPairs", unfollowed := true, recurses := true, named := ["math/bits.deBruijn32tab", "math/bits.deBruijn64tab"], plainKeys := false, apart := false, laid := [("math/bits.deBruijn32tab", laid_math_bits_deBruijn32tab), ("math/bits.deBruijn64tab", laid_math_bits_deBruijn64tab)] }
def BedPairsSaid : Prop := bedPairsRow.holds Tryd.pinned (OpenSpec.ofChange bedPairsSpec)

/-- ITS FALSE NEIGHBOUR: 'it returns false'. Refute it at one input. -/
def bedPairsWrong : ChangeSpec := { name := "bedPairs", fn := fun _ => fun
  | [d1, d2] => { results := [.lit (.bool false)], args := [d1, d2] }
  | _ => none }
def BedPairsWrongFalsely : Prop := bedPairsRow.holds Tryd.pinned (OpenSpec.ofChange bedPairsWrong)

/-- 'dibberlaw01.BedCounts': WHATEVER THE INPUT: true; the input reads as it did. -/
def bedCountsSpec : ChangeSpec := { name := "bedCounts", fn := fun _ => fun
  | [d] => { results := [.lit (.bool true)], args := [d] }
  | _ => none }
def bedCountsRow : OpenClaim := { program := "ytiodednhadnekaadoor", sum := "cd0f61e8fb9eaf44c7b653bfcfb456ef03bc6960ac28debfea3a93cc343b400f", func := "dibber/dibberlaw01.BedCounts", spec := "bedCounts", unfollowed := true, recurses := true, named := ["math/bits.deBruijn32tab", "math/bits.deBruijn64tab"], plainKeys := false, apart := false, laid := [("math/bits.deBruijn32tab", laid_math_bits_deBruijn32tab), ("math/bits.deBruijn64tab", laid_math_bits_deBruijn64tab)] }
def BedCountsSaid : Prop := bedCountsRow.holds Tryd.pinned (OpenSpec.ofChange bedCountsSpec)

/-- ITS FALSE NEIGHBOUR: 'it returns false'. Refute it at one input. -/
def bedCountsWrong : ChangeSpec := { name := "bedCounts", fn := fun _ => fun
  | [d] => { results := [.lit (.bool false)], args := [d] }
  | _ => none }
def BedCountsWrongFalsely : Prop := bedCountsRow.holds Tryd.pinned (OpenSpec.ofChange bedCountsWrong)

/-- 'dibberlaw01.BedFinished': WHATEVER THE INPUT: true; the input reads as it did. -/
def bedFinishedSpec : ChangeSpec := { name := "bedFinished", fn := fun _ => fun
  | [d] => { results := [.lit (.bool true)], args := [d] }
  | _ => none }
def bedFinishedRow : OpenClaim := { program := "ytiodednhadnekaadoor", sum := "cd0f61e8fb9eaf44c7b653bfcfb456ef03bc6960ac28debfea3a93cc343b400f", func := "dibber/dibberlaw01.BedFinished", spec := "bedFinished", unfollowed := true, recurses := true, named := ["math/bits.deBruijn32tab", "math/bits.deBruijn64tab"], plainKeys := false, apart := false, laid := [("math/bits.deBruijn32tab", laid_math_bits_deBruijn32tab), ("math/bits.deBruijn64tab", laid_math_bits_deBruijn64tab)] }
def BedFinishedSaid : Prop := bedFinishedRow.holds Tryd.pinned (OpenSpec.ofChange bedFinishedSpec)

/-- ITS FALSE NEIGHBOUR: 'it returns false'. Refute it at one input. -/
def bedFinishedWrong : ChangeSpec := { name := "bedFinished", fn := fun _ => fun
  | [d] => { results := [.lit (.bool false)], args := [d] }
  | _ => none }
def BedFinishedWrongFalsely : Prop := bedFinishedRow.holds Tryd.pinned (OpenSpec.ofChange bedFinishedWrong)

/-- 'dibberlaw01.BedCyclic': WHATEVER THE INPUT: true; the input reads as it did. -/
def bedCyclicSpec : ChangeSpec := { name := "bedCyclic", fn := fun _ => fun
  | [d1, d2, d3] => { results := [.lit (.bool true)], args := [d1, d2, d3] }
  | _ => none }
def bedCyclicRow : OpenClaim := { program := "ytiodednhadnekaadoor", sum := "cd0f61e8fb9eaf44c7b653bfcfb456ef03bc6960ac28debfea3a93cc343b400f", func := "dibber/dibberlaw01.BedCyclic", spec := "bedCyclic", unfollowed := true, recurses := true, named := ["math/bits.deBruijn32tab", "math/bits.deBruijn64tab"], plainKeys := false, apart := false, laid := [("math/bits.deBruijn32tab", laid_math_bits_deBruijn32tab), ("math/bits.deBruijn64tab", laid_math_bits_deBruijn64tab)] }
def BedCyclicSaid : Prop := bedCyclicRow.holds Tryd.pinned (OpenSpec.ofChange bedCyclicSpec)

/-- ITS FALSE NEIGHBOUR: 'it returns false'. Refute it at one input. -/
def bedCyclicWrong : ChangeSpec := { name := "bedCyclic", fn := fun _ => fun
  | [d1, d2, d3] => { results := [.lit (.bool false)], args := [d1, d2, d3] }
  | _ => none }
def BedCyclicWrongFalsely : Prop := bedCyclicRow.holds Tryd.pinned (OpenSpec.ofChange bedCyclicWrong)

/-- 'dibberlaw01.BedTurns': WHATEVER THE INPUT: true; the input reads as it did. -/
def bedTurnsSpec : ChangeSpec := { name := "bedTurns", fn := fun _ => fun
  | [d1, d2, d3] => { results := [.lit (.bool true)], args := [d1, d2, d3] }
  | _ => none }
def bedTurnsRow : OpenClaim := { program := "ytiodednhadnekaadoor", sum := "cd0f61e8fb9eaf44c7b653bfcfb456ef03bc6960ac28debfea3a93cc343b400f", func := "dibber/dibberlaw01.BedTurns", spec := "bedTurns", unfollowed := true, recurses := true, named := ["math/bits.deBruijn32tab", "math/bits.deBruijn64tab"], plainKeys := false, apart := false, laid := [("math/bits.deBruijn32tab", laid_math_bits_deBruijn32tab), ("math/bits.deBruijn64tab", laid_math_bits_deBruijn64tab)] }
def BedTurnsSaid : Prop := bedTurnsRow.holds Tryd.pinned (OpenSpec.ofChange bedTurnsSpec)

/-- ITS FALSE NEIGHBOUR: 'it returns false'. Refute it at one input. -/
def bedTurnsWrong : ChangeSpec := { name := "bedTurns", fn := fun _ => fun
  | [d1, d2, d3] => { results := [.lit (.bool false)], args := [d1, d2, d3] }
  | _ => none }
def BedTurnsWrongFalsely : Prop := bedTurnsRow.holds Tryd.pinned (OpenSpec.ofChange bedTurnsWrong)

/-- 'dibberlaw01.BedTurned': WHATEVER THE INPUT: true; the input reads as it did. -/
def bedTurnedSpec : ChangeSpec := { name := "bedTurned", fn := fun _ => fun
  | [d1, d2, d3] => { results := [.lit (.bool true)], args := [d1, d2, d3] }
  | _ => none }
def bedTurnedRow : OpenClaim := { program := "ytiodednhadnekaadoor", sum := "cd0f61e8fb9eaf44c7b653bfcfb456ef03bc6960ac28debfea3a93cc343b400f", func := "dibber/dibberlaw01.BedTurned", spec := "bedTurned", unfollowed := true, recurses := true, named := ["math/bits.deBruijn32tab", "math/bits.deBruijn64tab"], plainKeys := false, apart := false, laid := [("math/bits.deBruijn32tab", laid_math_bits_deBruijn32tab), ("math/bits.deBruijn64tab", laid_math_bits_deBruijn64tab)] }
def BedTurnedSaid : Prop := bedTurnedRow.holds Tryd.pinned (OpenSpec.ofChange bedTurnedSpec)

/-- ITS FALSE NEIGHBOUR: 'it returns false'. Refute it at one input. -/
def bedTurnedWrong : ChangeSpec := { name := "bedTurned", fn := fun _ => fun
  | [d1, d2, d3] => { results := [.lit (.bool false)], args := [d1, d2, d3] }
  | _ => none }
def BedTurnedWrongFalsely : Prop := bedTurnedRow.holds Tryd.pinned (OpenSpec.ofChange bedTurnedWrong)

/-- 'dibberlaw01.BedRows': WHATEVER THE INPUT: true; the input reads as it did. -/
def bedRowsSpec : ChangeSpec := { name := "bedRows", fn := fun _ => fun
  | [d1, d2] => { results := [.lit (.bool true)], args := [d1, d2] }
  | _ => none }
def bedRowsRow : OpenClaim := { program := "ytiodednhadnekaadoor", sum := "cd0f61e8fb9eaf44c7b653bfcfb456ef03bc6960ac28debfea3a93cc343b400f", func := "dibber/dibberlaw01.BedRows", spec := "bedRows", unfollowed := true, recurses := true, named := ["math/bits.deBruijn32tab", "math/bits.deBruijn64tab"], plainKeys := false, apart := false, laid := [("math/bits.deBruijn32tab", laid_math_bits_deBruijn32tab), ("math/bits.deBruijn64tab", laid_math_bits_deBruijn64tab)] }
def BedRowsSaid : Prop := bedRowsRow.holds Tryd.pinned (OpenSpec.ofChange bedRowsSpec)

/-- ITS FALSE NEIGHBOUR: 'it returns false'. Refute it at one input. -/
def bedRowsWrong : ChangeSpec := { name := "bedRows", fn := fun _ => fun
  | [d1, d2] => { results := [.lit (.bool false)], args := [d1, d2] }
  | _ => none }
def BedRowsWrongFalsely : Prop := bedRowsRow.holds Tryd.pinned (OpenSpec.ofChange bedRowsWrong)

/-- 'dibberlaw01.BedHall': WHATEVER THE INPUT: true; the input reads as it did. -/
def bedHallSpec : ChangeSpec := { name := "bedHall", fn := fun _ => fun
  | [d1, d2] => { results := [.lit (.bool true)], args := [d1, d2] }
  | _ => none }
def bedHallRow : OpenClaim := { program := "ytiodednhadnekaadoor", sum := "cd0f61e8fb9eaf44c7b653bfcfb456ef03bc6960ac28debfea3a93cc343b400f", func := "dibber/dibberlaw01.BedHall", spec := "bedHall", unfollowed := true, recurses := true, named := ["math/bits.deBruijn32tab", "math/bits.deBruijn64tab"], plainKeys := false, apart := false, laid := [("math/bits.deBruijn32tab", laid_math_bits_deBruijn32tab), ("math/bits.deBruijn64tab", laid_math_bits_deBruijn64tab)] }
def BedHallSaid : Prop := bedHallRow.holds Tryd.pinned (OpenSpec.ofChange bedHallSpec)

/-- ITS FALSE NEIGHBOUR: 'it returns false'. Refute it at one input. -/
def bedHallWrong : ChangeSpec := { name := "bedHall", fn := fun _ => fun
  | [d1, d2] => { results := [.lit (.bool false)], args := [d1, d2] }
  | _ => none }
def BedHallWrongFalsely : Prop := bedHallRow.holds Tryd.pinned (OpenSpec.ofChange bedHallWrong)

/- THE SECOND FORM. 'bulk': how many values and letters a reading holds, each counted each time it is reached (what is shared counts as often as it is met; a slice's spare places count too). A statement '..UptoSaid' is the law's where the arguments, and the package variables that the reading takes, are together of bulk at most 1048576: NARROWER than '..Said'. Prove '..Said' where nothing that the law and all that it calls make is longer than what came in: it says more and counts as full. Else prove '..UptoSaid'. A law counts once. -/
mutual
def uptoBulk {H : Type} : DataW H → Nat
  | .lit (.string bytes) => bytes.length + 1
  | .lit _ => 1
  | .nil => 1
  | .ptr d => uptoBulk d + 1
  | .slice elems spare => uptoBulkAll elems + uptoBulkAll spare + 1
  | .agg parts => uptoBulkAll parts + 1
  | .iface _ d => uptoBulk d + 1
  | .map entries => uptoBulkEntries entries + 1
  | .held _ => 1
def uptoBulkAll {H : Type} : List (DataW H) → Nat
  | [] => 0
  | d :: r => uptoBulk d + uptoBulkAll r
def uptoBulkEntries {H : Type} : List (Lit × DataW H) → Nat
  | [] => 0
  | x :: r => uptoBulkEntry x + uptoBulkEntries r
def uptoBulkEntry {H : Type} : Lit × DataW H → Nat
  | (.string bytes, d) => bytes.length + uptoBulk d + 1
  | (_, d) => uptoBulk d + 1
 end
def uptoSmall : (H : Type) → List (DataW H) → Bool := fun _ ds => decide (uptoBulkAll ds ≤ 1048576)
def OpenSpec.upto (s : _root_.Go.ChangeSpec) : _root_.Go.OpenSpec := { _root_.Go.OpenSpec.ofChange s with cond := some uptoSmall }

/-- 'dibberlaw01.BedFills', WHERE WHAT IT READS IS OF BULK AT MOST 1048576: true; the input reads as it did. -/
def bedFillsUptoRow : OpenClaim := { program := "ytiodednhadnekaadoor", sum := "cd0f61e8fb9eaf44c7b653bfcfb456ef03bc6960ac28debfea3a93cc343b400f", func := "dibber/dibberlaw01.BedFills", spec := "bedFills", unfollowed := true, recurses := true, named := ["math/bits.deBruijn32tab", "math/bits.deBruijn64tab"], plainKeys := false, apart := false, laid := [("math/bits.deBruijn32tab", laid_math_bits_deBruijn32tab), ("math/bits.deBruijn64tab", laid_math_bits_deBruijn64tab)], narrowed := true }
def BedFillsUptoSaid : Prop := bedFillsUptoRow.holds Tryd.pinned (OpenSpec.upto bedFillsSpec)

/-- 'dibberlaw01.BedParted', WHERE WHAT IT READS IS OF BULK AT MOST 1048576: true; the input reads as it did. -/
def bedPartedUptoRow : OpenClaim := { program := "ytiodednhadnekaadoor", sum := "cd0f61e8fb9eaf44c7b653bfcfb456ef03bc6960ac28debfea3a93cc343b400f", func := "dibber/dibberlaw01.BedParted", spec := "bedParted", unfollowed := true, recurses := true, named := ["math/bits.deBruijn32tab", "math/bits.deBruijn64tab"], plainKeys := false, apart := false, laid := [("math/bits.deBruijn32tab", laid_math_bits_deBruijn32tab), ("math/bits.deBruijn64tab", laid_math_bits_deBruijn64tab)], narrowed := true }
def BedPartedUptoSaid : Prop := bedPartedUptoRow.holds Tryd.pinned (OpenSpec.upto bedPartedSpec)

/-- 'dibberlaw01.BedChecks', WHERE WHAT IT READS IS OF BULK AT MOST 1048576: true; the input reads as it did. -/
def bedChecksUptoRow : OpenClaim := { program := "ytiodednhadnekaadoor", sum := "cd0f61e8fb9eaf44c7b653bfcfb456ef03bc6960ac28debfea3a93cc343b400f", func := "dibber/dibberlaw01.BedChecks", spec := "bedChecks", unfollowed := true, recurses := true, named := ["math/bits.deBruijn32tab", "math/bits.deBruijn64tab"], plainKeys := false, apart := false, laid := [("math/bits.deBruijn32tab", laid_math_bits_deBruijn32tab), ("math/bits.deBruijn64tab", laid_math_bits_deBruijn64tab)], narrowed := true }
def BedChecksUptoSaid : Prop := bedChecksUptoRow.holds Tryd.pinned (OpenSpec.upto bedChecksSpec)

/-- 'dibberlaw01.BedTransversals', WHERE WHAT IT READS IS OF BULK AT MOST 1048576: true; the input reads as it did. -/
def bedTransversalsUptoRow : OpenClaim := { program := "ytiodednhadnekaadoor", sum := "cd0f61e8fb9eaf44c7b653bfcfb456ef03bc6960ac28debfea3a93cc343b400f", func := "dibber/dibberlaw01.BedTransversals", spec := "bedTransversals", unfollowed := true, recurses := true, named := ["math/bits.deBruijn32tab", "math/bits.deBruijn64tab"], plainKeys := false, apart := false, laid := [("math/bits.deBruijn32tab", laid_math_bits_deBruijn32tab), ("math/bits.deBruijn64tab", laid_math_bits_deBruijn64tab)], narrowed := true }
def BedTransversalsUptoSaid : Prop := bedTransversalsUptoRow.holds Tryd.pinned (OpenSpec.upto bedTransversalsSpec)

/-- 'dibberlaw01.BedMates', WHERE WHAT IT READS IS OF BULK AT MOST 1048576: true; the input reads as it did. -/
def bedMatesUptoRow : OpenClaim := { program := "ytiodednhadnekaadoor", sum := "cd0f61e8fb9eaf44c7b653bfcfb456ef03bc6960ac28debfea3a93cc343b400f", func := "dibber/dibberlaw01.BedMates", spec := "bedMates", unfollowed := true, recurses := true, named := ["math/bits.deBruijn32tab", "math/bits.deBruijn64tab"], plainKeys := false, apart := false, laid := [("math/bits.deBruijn32tab", laid_math_bits_deBruijn32tab), ("math/bits.deBruijn64tab", laid_math_bits_deBruijn64tab)], narrowed := true }
def BedMatesUptoSaid : Prop := bedMatesUptoRow.holds Tryd.pinned (OpenSpec.upto bedMatesSpec)

/-- 'dibberlaw01.BedPairs', WHERE WHAT IT READS IS OF BULK AT MOST 1048576: true; the input reads as it did. -/
def bedPairsUptoRow : OpenClaim := { program := "ytiodednhadnekaadoor", sum := "cd0f61e8fb9eaf44c7b653bfcfb456ef03bc6960ac28debfea3a93cc343b400f", func := "dibber/dibberlaw01.BedPairs", spec := "bedPairs", unfollowed := true, recurses := true, named := ["math/bits.deBruijn32tab", "math/bits.deBruijn64tab"], plainKeys := false, apart := false, laid := [("math/bits.deBruijn32tab", laid_math_bits_deBruijn32tab), ("math/bits.deBruijn64tab", laid_math_bits_deBruijn64tab)], narrowed := true }
def BedPairsUptoSaid : Prop := bedPairsUptoRow.holds Tryd.pinned (OpenSpec.upto bedPairsSpec)

/-- 'dibberlaw01.BedCounts', WHERE WHAT IT READS IS OF BULK AT MOST 1048576: true; the input reads as it did. -/
def bedCountsUptoRow : OpenClaim := { program := "ytiodednhadnekaadoor", sum := "cd0f61e8fb9eaf44c7b653bfcfb456ef03bc6960ac28debfea3a93cc343b400f", func := "dibber/dibberlaw01.BedCounts", spec := "bedCounts", unfollowed := true, recurses := true, named := ["math/bits.deBruijn32tab", "math/bits.deBruijn64tab"], plainKeys := false, apart := false, laid := [("math/bits.deBruijn32tab", laid_math_bits_deBruijn32tab), ("math/bits.deBruijn64tab", laid_math_bits_deBruijn64tab)], narrowed := true }
def BedCountsUptoSaid : Prop := bedCountsUptoRow.holds Tryd.pinned (OpenSpec.upto bedCountsSpec)

/-- 'dibberlaw01.BedFinished', WHERE WHAT IT READS IS OF BULK AT MOST 1048576: true; the input reads as it did. -/
def bedFinishedUptoRow : OpenClaim := { program := "ytiodednhadnekaadoor", sum := "cd0f61e8fb9eaf44c7b653bfcfb456ef03bc6960ac28debfea3a93cc343b400f", func := "dibber/dibberlaw01.BedFinished", spec := "bedFinished", unfollowed := true, recurses := true, named := ["math/bits.deBruijn32tab", "math/bits.deBruijn64tab"], plainKeys := false, apart := false, laid := [("math/bits.deBruijn32tab", laid_math_bits_deBruijn32tab), ("math/bits.deBruijn64tab", laid_math_bits_deBruijn64tab)], narrowed := true }
def BedFinishedUptoSaid : Prop := bedFinishedUptoRow.holds Tryd.pinned (OpenSpec.upto bedFinishedSpec)

/-- 'dibberlaw01.BedCyclic', WHERE WHAT IT READS IS OF BULK AT MOST 1048576: true; the input reads as it did. -/
def bedCyclicUptoRow : OpenClaim := { program := "ytiodednhadnekaadoor", sum := "cd0f61e8fb9eaf44c7b653bfcfb456ef03bc6960ac28debfea3a93cc343b400f", func := "dibber/dibberlaw01.BedCyclic", spec := "bedCyclic", unfollowed := true, recurses := true, named := ["math/bits.deBruijn32tab", "math/bits.deBruijn64tab"], plainKeys := false, apart := false, laid := [("math/bits.deBruijn32tab", laid_math_bits_deBruijn32tab), ("math/bits.deBruijn64tab", laid_math_bits_deBruijn64tab)], narrowed := true }
def BedCyclicUptoSaid : Prop := bedCyclicUptoRow.holds Tryd.pinned (OpenSpec.upto bedCyclicSpec)

/-- 'dibberlaw01.BedTurns', WHERE WHAT IT READS IS OF BULK AT MOST 1048576: true; the input reads as it did. -/
def bedTurnsUptoRow : OpenClaim := { program := "ytiodednhadnekaadoor", sum := "cd0f61e8fb9eaf44c7b653bfcfb456ef03bc6960ac28debfea3a93cc343b400f", func := "dibber/dibberlaw01.BedTurns", spec := "bedTurns", unfollowed := true, recurses := true, named := ["math/bits.deBruijn32tab", "math/bits.deBruijn64tab"], plainKeys := false, apart := false, laid := [("math/bits.deBruijn32tab", laid_math_bits_deBruijn32tab), ("math/bits.deBruijn64tab", laid_math_bits_deBruijn64tab)], narrowed := true }
def BedTurnsUptoSaid : Prop := bedTurnsUptoRow.holds Tryd.pinned (OpenSpec.upto bedTurnsSpec)

/-- 'dibberlaw01.BedTurned', WHERE WHAT IT READS IS OF BULK AT MOST 1048576: true; the input reads as it did. -/
def bedTurnedUptoRow : OpenClaim := { program := "ytiodednhadnekaadoor", sum := "cd0f61e8fb9eaf44c7b653bfcfb456ef03bc6960ac28debfea3a93cc343b400f", func := "dibber/dibberlaw01.BedTurned", spec := "bedTurned", unfollowed := true, recurses := true, named := ["math/bits.deBruijn32tab", "math/bits.deBruijn64tab"], plainKeys := false, apart := false, laid := [("math/bits.deBruijn32tab", laid_math_bits_deBruijn32tab), ("math/bits.deBruijn64tab", laid_math_bits_deBruijn64tab)], narrowed := true }
def BedTurnedUptoSaid : Prop := bedTurnedUptoRow.holds Tryd.pinned (OpenSpec.upto bedTurnedSpec)

/-- 'dibberlaw01.BedRows', WHERE WHAT IT READS IS OF BULK AT MOST 1048576: true; the input reads as it did. -/
def bedRowsUptoRow : OpenClaim := { program := "ytiodednhadnekaadoor", sum := "cd0f61e8fb9eaf44c7b653bfcfb456ef03bc6960ac28debfea3a93cc343b400f", func := "dibber/dibberlaw01.BedRows", spec := "bedRows", unfollowed := true, recurses := true, named := ["math/bits.deBruijn32tab", "math/bits.deBruijn64tab"], plainKeys := false, apart := false, laid := [("math/bits.deBruijn32tab", laid_math_bits_deBruijn32tab), ("math/bits.deBruijn64tab", laid_math_bits_deBruijn64tab)], narrowed := true }
def BedRowsUptoSaid : Prop := bedRowsUptoRow.holds Tryd.pinned (OpenSpec.upto bedRowsSpec)

/-- 'dibberlaw01.BedHall', WHERE WHAT IT READS IS OF BULK AT MOST 1048576: true; the input reads as it did. -/
def bedHallUptoRow : OpenClaim := { program := "ytiodednhadnekaadoor", sum := "cd0f61e8fb9eaf44c7b653bfcfb456ef03bc6960ac28debfea3a93cc343b400f", func := "dibber/dibberlaw01.BedHall", spec := "bedHall", unfollowed := true, recurses := true, named := ["math/bits.deBruijn32tab", "math/bits.deBruijn64tab"], plainKeys := false, apart := false, laid := [("math/bits.deBruijn32tab", laid_math_bits_deBruijn32tab), ("math/bits.deBruijn64tab", laid_math_bits_deBruijn64tab)], narrowed := true }
def BedHallUptoSaid : Prop := bedHallUptoRow.holds Tryd.pinned (OpenSpec.upto bedHallSpec)

end Rows
end Go.Proofs.YtiodednhadnekaaDoor
