/-
  DERIVED. GIVEN WITH THE SEED: THE CARDS: each row of YtiodednhadnekaaDoorRows.lean that lists a variable, with what it lists TIED to the program's text (the seventh form; the later family's looks); each row that meets fmt, with fmt's text TOLD by the authors' own Lean function (tested against real Go, not proved from fmt's source: count such statements apart). THE CARD IS WHAT COUNTS. Prove the row's statement (the work); the ties are given (YtiodednhadnekaaDoorTie.lean); close each card by the builder's one call (the guide's Derived/Test/ToyasCard.lean, 'card_holds'). Laid BY PROGRAM, IN A SANDBOX (cutbox-door.mjs). By AI agents, Wed Nov 11 2026. No macro, syntax, notation, axiom, sorry.
-/
import Derived.Test.YtiodednhadnekaaDoorRows
import GoSem.ClaimSeven
namespace Go.Proofs.YtiodednhadnekaaDoor
namespace Rows

/-- THE TIED CARD OF 'dibberlaw01.BedFills'. -/
def bedFillsCard : Claim7 := { stood := { row := bedFillsRow, standIns := [], harness := (true, "631ebd601d1dcf638d5be7aa517775caf8c3a47e21c7c9ddc0c0d958dbcdc3e5"), looks := false }, kinds := [], alts := [], laidByText := true, laidKinds := [.data, .data], laidTests := true, laidLooks := .later }
def BedFillsCardSaid : Prop := Claim7.holds Tryd.pinned (.plain (OpenSpec.ofChange bedFillsSpec)) bedFillsCard

/-- THE TIED CARD OF 'dibberlaw01.BedParted'. -/
def bedPartedCard : Claim7 := { stood := { row := bedPartedRow, standIns := [], harness := (true, "631ebd601d1dcf638d5be7aa517775caf8c3a47e21c7c9ddc0c0d958dbcdc3e5"), looks := false }, kinds := [], alts := [], laidByText := true, laidKinds := [.data, .data], laidTests := true, laidLooks := .later }
def BedPartedCardSaid : Prop := Claim7.holds Tryd.pinned (.plain (OpenSpec.ofChange bedPartedSpec)) bedPartedCard

/-- THE TIED CARD OF 'dibberlaw01.BedChecks'. -/
def bedChecksCard : Claim7 := { stood := { row := bedChecksRow, standIns := [], harness := (true, "631ebd601d1dcf638d5be7aa517775caf8c3a47e21c7c9ddc0c0d958dbcdc3e5"), looks := false }, kinds := [], alts := [], laidByText := true, laidKinds := [.data, .data], laidTests := true, laidLooks := .later }
def BedChecksCardSaid : Prop := Claim7.holds Tryd.pinned (.plain (OpenSpec.ofChange bedChecksSpec)) bedChecksCard

/-- THE TIED CARD OF 'dibberlaw01.BedTransversals'. -/
def bedTransversalsCard : Claim7 := { stood := { row := bedTransversalsRow, standIns := [], harness := (true, "631ebd601d1dcf638d5be7aa517775caf8c3a47e21c7c9ddc0c0d958dbcdc3e5"), looks := false }, kinds := [], alts := [], laidByText := true, laidKinds := [.data, .data], laidTests := true, laidLooks := .later }
def BedTransversalsCardSaid : Prop := Claim7.holds Tryd.pinned (.plain (OpenSpec.ofChange bedTransversalsSpec)) bedTransversalsCard

/-- THE TIED CARD OF 'dibberlaw01.BedMates'. -/
def bedMatesCard : Claim7 := { stood := { row := bedMatesRow, standIns := [], harness := (true, "631ebd601d1dcf638d5be7aa517775caf8c3a47e21c7c9ddc0c0d958dbcdc3e5"), looks := false }, kinds := [], alts := [], laidByText := true, laidKinds := [.data, .data], laidTests := true, laidLooks := .later }
def BedMatesCardSaid : Prop := Claim7.holds Tryd.pinned (.plain (OpenSpec.ofChange bedMatesSpec)) bedMatesCard

/-- THE TIED CARD OF 'dibberlaw01.BedPairs'. -/
def bedPairsCard : Claim7 := { stood := { row := bedPairsRow, standIns := [], harness := (true, "631ebd601d1dcf638d5be7aa517775caf8c3a47e21c7c9ddc0c0d958dbcdc3e5"), looks := false }, kinds := [], alts := [], laidByText := true, laidKinds := [.data, .data], laidTests := true, laidLooks := .later }
def BedPairsCardSaid : Prop := Claim7.holds Tryd.pinned (.plain (OpenSpec.ofChange bedPairsSpec)) bedPairsCard

/-- THE TIED CARD OF 'dibberlaw01.BedCounts'. -/
def bedCountsCard : Claim7 := { stood := { row := bedCountsRow, standIns := [], harness := (true, "631ebd601d1dcf638d5be7aa517775caf8c3a47e21c7c9ddc0c0d958dbcdc3e5"), looks := false }, kinds := [], alts := [], laidByText := true, laidKinds := [.data, .data], laidTests := true, laidLooks := .later }
def BedCountsCardSaid : Prop := Claim7.holds Tryd.pinned (.plain (OpenSpec.ofChange bedCountsSpec)) bedCountsCard

/-- THE TIED CARD OF 'dibberlaw01.BedFinished'. -/
def bedFinishedCard : Claim7 := { stood := { row := bedFinishedRow, standIns := [], harness := (true, "631ebd601d1dcf638d5be7aa517775caf8c3a47e21c7c9ddc0c0d958dbcdc3e5"), looks := false }, kinds := [], alts := [], laidByText := true, laidKinds := [.data, .data], laidTests := true, laidLooks := .later }
def BedFinishedCardSaid : Prop := Claim7.holds Tryd.pinned (.plain (OpenSpec.ofChange bedFinishedSpec)) bedFinishedCard

/-- THE TIED CARD OF 'dibberlaw01.BedCyclic'. -/
def bedCyclicCard : Claim7 := { stood := { row := bedCyclicRow, standIns := [], harness := (true, "631ebd601d1dcf638d5be7aa517775caf8c3a47e21c7c9ddc0c0d958dbcdc3e5"), looks := false }, kinds := [], alts := [], laidByText := true, laidKinds := [.data, .data], laidTests := true, laidLooks := .later }
def BedCyclicCardSaid : Prop := Claim7.holds Tryd.pinned (.plain (OpenSpec.ofChange bedCyclicSpec)) bedCyclicCard

/-- THE TIED CARD OF 'dibberlaw01.BedTurns'. -/
def bedTurnsCard : Claim7 := { stood := { row := bedTurnsRow, standIns := [], harness := (true, "631ebd601d1dcf638d5be7aa517775caf8c3a47e21c7c9ddc0c0d958dbcdc3e5"), looks := false }, kinds := [], alts := [], laidByText := true, laidKinds := [.data, .data], laidTests := true, laidLooks := .later }
def BedTurnsCardSaid : Prop := Claim7.holds Tryd.pinned (.plain (OpenSpec.ofChange bedTurnsSpec)) bedTurnsCard

/-- THE TIED CARD OF 'dibberlaw01.BedTurned'. -/
def bedTurnedCard : Claim7 := { stood := { row := bedTurnedRow, standIns := [], harness := (true, "631ebd601d1dcf638d5be7aa517775caf8c3a47e21c7c9ddc0c0d958dbcdc3e5"), looks := false }, kinds := [], alts := [], laidByText := true, laidKinds := [.data, .data], laidTests := true, laidLooks := .later }
def BedTurnedCardSaid : Prop := Claim7.holds Tryd.pinned (.plain (OpenSpec.ofChange bedTurnedSpec)) bedTurnedCard

/-- THE TIED CARD OF 'dibberlaw01.BedRows'. -/
def bedRowsCard : Claim7 := { stood := { row := bedRowsRow, standIns := [], harness := (true, "631ebd601d1dcf638d5be7aa517775caf8c3a47e21c7c9ddc0c0d958dbcdc3e5"), looks := false }, kinds := [], alts := [], laidByText := true, laidKinds := [.data, .data], laidTests := true, laidLooks := .later }
def BedRowsCardSaid : Prop := Claim7.holds Tryd.pinned (.plain (OpenSpec.ofChange bedRowsSpec)) bedRowsCard

/-- THE TIED CARD OF 'dibberlaw01.BedHall'. -/
def bedHallCard : Claim7 := { stood := { row := bedHallRow, standIns := [], harness := (true, "631ebd601d1dcf638d5be7aa517775caf8c3a47e21c7c9ddc0c0d958dbcdc3e5"), looks := false }, kinds := [], alts := [], laidByText := true, laidKinds := [.data, .data], laidTests := true, laidLooks := .later }
def BedHallCardSaid : Prop := Claim7.holds Tryd.pinned (.plain (OpenSpec.ofChange bedHallSpec)) bedHallCard

/-- THE SECOND FORM's CARD OF 'dibberlaw01.BedFills'. -/
def bedFillsUptoCard : Claim7 := { stood := { row := bedFillsUptoRow, standIns := [], harness := (true, "631ebd601d1dcf638d5be7aa517775caf8c3a47e21c7c9ddc0c0d958dbcdc3e5"), looks := false }, kinds := [], alts := [], laidByText := true, laidKinds := [.data, .data], laidTests := true, laidLooks := .later }
def BedFillsUptoCardSaid : Prop := Claim7.holds Tryd.pinned (.plain (OpenSpec.upto bedFillsSpec)) bedFillsUptoCard

/-- THE SECOND FORM's CARD OF 'dibberlaw01.BedParted'. -/
def bedPartedUptoCard : Claim7 := { stood := { row := bedPartedUptoRow, standIns := [], harness := (true, "631ebd601d1dcf638d5be7aa517775caf8c3a47e21c7c9ddc0c0d958dbcdc3e5"), looks := false }, kinds := [], alts := [], laidByText := true, laidKinds := [.data, .data], laidTests := true, laidLooks := .later }
def BedPartedUptoCardSaid : Prop := Claim7.holds Tryd.pinned (.plain (OpenSpec.upto bedPartedSpec)) bedPartedUptoCard

/-- THE SECOND FORM's CARD OF 'dibberlaw01.BedChecks'. -/
def bedChecksUptoCard : Claim7 := { stood := { row := bedChecksUptoRow, standIns := [], harness := (true, "631ebd601d1dcf638d5be7aa517775caf8c3a47e21c7c9ddc0c0d958dbcdc3e5"), looks := false }, kinds := [], alts := [], laidByText := true, laidKinds := [.data, .data], laidTests := true, laidLooks := .later }
def BedChecksUptoCardSaid : Prop := Claim7.holds Tryd.pinned (.plain (OpenSpec.upto bedChecksSpec)) bedChecksUptoCard

/-- THE SECOND FORM's CARD OF 'dibberlaw01.BedTransversals'. -/
def bedTransversalsUptoCard : Claim7 := { stood := { row := bedTransversalsUptoRow, standIns := [], harness := (true, "631ebd601d1dcf638d5be7aa517775caf8c3a47e21c7c9ddc0c0d958dbcdc3e5"), looks := false }, kinds := [], alts := [], laidByText := true, laidKinds := [.data, .data], laidTests := true, laidLooks := .later }
def BedTransversalsUptoCardSaid : Prop := Claim7.holds Tryd.pinned (.plain (OpenSpec.upto bedTransversalsSpec)) bedTransversalsUptoCard

/-- THE SECOND FORM's CARD OF 'dibberlaw01.BedMates'. -/
def bedMatesUptoCard : Claim7 := { stood := { row := bedMatesUptoRow, standIns := [], harness := (true, "631ebd601d1dcf638d5be7aa517775caf8c3a47e21c7c9ddc0c0d958dbcdc3e5"), looks := false }, kinds := [], alts := [], laidByText := true, laidKinds := [.data, .data], laidTests := true, laidLooks := .later }
def BedMatesUptoCardSaid : Prop := Claim7.holds Tryd.pinned (.plain (OpenSpec.upto bedMatesSpec)) bedMatesUptoCard

/-- THE SECOND FORM's CARD OF 'dibberlaw01.BedPairs'. -/
def bedPairsUptoCard : Claim7 := { stood := { row := bedPairsUptoRow, standIns := [], harness := (true, "631ebd601d1dcf638d5be7aa517775caf8c3a47e21c7c9ddc0c0d958dbcdc3e5"), looks := false }, kinds := [], alts := [], laidByText := true, laidKinds := [.data, .data], laidTests := true, laidLooks := .later }
def BedPairsUptoCardSaid : Prop := Claim7.holds Tryd.pinned (.plain (OpenSpec.upto bedPairsSpec)) bedPairsUptoCard

/-- THE SECOND FORM's CARD OF 'dibberlaw01.BedCounts'. -/
def bedCountsUptoCard : Claim7 := { stood := { row := bedCountsUptoRow, standIns := [], harness := (true, "631ebd601d1dcf638d5be7aa517775caf8c3a47e21c7c9ddc0c0d958dbcdc3e5"), looks := false }, kinds := [], alts := [], laidByText := true, laidKinds := [.data, .data], laidTests := true, laidLooks := .later }
def BedCountsUptoCardSaid : Prop := Claim7.holds Tryd.pinned (.plain (OpenSpec.upto bedCountsSpec)) bedCountsUptoCard

/-- THE SECOND FORM's CARD OF 'dibberlaw01.BedFinished'. -/
def bedFinishedUptoCard : Claim7 := { stood := { row := bedFinishedUptoRow, standIns := [], harness := (true, "631ebd601d1dcf638d5be7aa517775caf8c3a47e21c7c9ddc0c0d958dbcdc3e5"), looks := false }, kinds := [], alts := [], laidByText := true, laidKinds := [.data, .data], laidTests := true, laidLooks := .later }
def BedFinishedUptoCardSaid : Prop := Claim7.holds Tryd.pinned (.plain (OpenSpec.upto bedFinishedSpec)) bedFinishedUptoCard

/-- THE SECOND FORM's CARD OF 'dibberlaw01.BedCyclic'. -/
def bedCyclicUptoCard : Claim7 := { stood := { row := bedCyclicUptoRow, standIns := [], harness := (true, "631ebd601d1dcf638d5be7aa517775caf8c3a47e21c7c9ddc0c0d958dbcdc3e5"), looks := false }, kinds := [], alts := [], laidByText := true, laidKinds := [.data, .data], laidTests := true, laidLooks := .later }
def BedCyclicUptoCardSaid : Prop := Claim7.holds Tryd.pinned (.plain (OpenSpec.upto bedCyclicSpec)) bedCyclicUptoCard

/-- THE SECOND FORM's CARD OF 'dibberlaw01.BedTurns'. -/
def bedTurnsUptoCard : Claim7 := { stood := { row := bedTurnsUptoRow, standIns := [], harness := (true, "631ebd601d1dcf638d5be7aa517775caf8c3a47e21c7c9ddc0c0d958dbcdc3e5"), looks := false }, kinds := [], alts := [], laidByText := true, laidKinds := [.data, .data], laidTests := true, laidLooks := .later }
def BedTurnsUptoCardSaid : Prop := Claim7.holds Tryd.pinned (.plain (OpenSpec.upto bedTurnsSpec)) bedTurnsUptoCard

/-- THE SECOND FORM's CARD OF 'dibberlaw01.BedTurned'. -/
def bedTurnedUptoCard : Claim7 := { stood := { row := bedTurnedUptoRow, standIns := [], harness := (true, "631ebd601d1dcf638d5be7aa517775caf8c3a47e21c7c9ddc0c0d958dbcdc3e5"), looks := false }, kinds := [], alts := [], laidByText := true, laidKinds := [.data, .data], laidTests := true, laidLooks := .later }
def BedTurnedUptoCardSaid : Prop := Claim7.holds Tryd.pinned (.plain (OpenSpec.upto bedTurnedSpec)) bedTurnedUptoCard

/-- THE SECOND FORM's CARD OF 'dibberlaw01.BedRows'. -/
def bedRowsUptoCard : Claim7 := { stood := { row := bedRowsUptoRow, standIns := [], harness := (true, "631ebd601d1dcf638d5be7aa517775caf8c3a47e21c7c9ddc0c0d958dbcdc3e5"), looks := false }, kinds := [], alts := [], laidByText := true, laidKinds := [.data, .data], laidTests := true, laidLooks := .later }
def BedRowsUptoCardSaid : Prop := Claim7.holds Tryd.pinned (.plain (OpenSpec.upto bedRowsSpec)) bedRowsUptoCard

/-- THE SECOND FORM's CARD OF 'dibberlaw01.BedHall'. -/
def bedHallUptoCard : Claim7 := { stood := { row := bedHallUptoRow, standIns := [], harness := (true, "631ebd601d1dcf638d5be7aa517775caf8c3a47e21c7c9ddc0c0d958dbcdc3e5"), looks := false }, kinds := [], alts := [], laidByText := true, laidKinds := [.data, .data], laidTests := true, laidLooks := .later }
def BedHallUptoCardSaid : Prop := Claim7.holds Tryd.pinned (.plain (OpenSpec.upto bedHallSpec)) bedHallUptoCard
end Rows
end Go.Proofs.YtiodednhadnekaaDoor
