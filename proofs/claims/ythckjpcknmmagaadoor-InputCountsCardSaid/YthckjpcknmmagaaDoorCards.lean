/-
  DERIVED. GIVEN WITH THE SEED: THE CARDS: each row of YthckjpcknmmagaaDoorRows.lean that lists a variable, with what it lists TIED to the program's text (the seventh form; the later family's looks); each row that meets fmt, with fmt's text TOLD by the authors' own Lean function (tested against real Go, not proved from fmt's source: count such statements apart). THE CARD IS WHAT COUNTS. Prove the row's statement (the work); the ties are given (YthckjpcknmmagaaDoorTie.lean); close each card by the builder's one call (the guide's Derived/Test/ToyasCard.lean, 'card_holds'). Laid BY PROGRAM, IN A SANDBOX (cutbox-door.mjs). By AI agents, Wed Nov 11 2026. No macro, syntax, notation, axiom, sorry.
-/
import Derived.Test.YthckjpcknmmagaaDoorRows
import GoSem.ClaimSeven
namespace Go.Proofs.YthckjpcknmmagaaDoor
namespace Rows

/-- THE TIED CARD OF 'milepostlaw05.InputReduces'. -/
def inputReducesCard : Claim7 := { stood := { row := inputReducesRow, standIns := [], harness := (true, "1cf4508417ae66dbf5df918d1d7fd5151ce12e7c9e2131614f5679089715f004"), looks := true }, kinds := [], alts := [], laidByText := true, laidKinds := [.handle], laidTests := true, laidLooks := .later }
def InputReducesCardSaid : Prop := Claim7.holds Tryd.pinned (.plain (OpenSpec.ofChange inputReducesSpec)) inputReducesCard

/-- THE TIED CARD OF 'milepostlaw05.InputCounts'. -/
def inputCountsCard : Claim7 := { stood := { row := inputCountsRow, standIns := [], harness := (true, "1cf4508417ae66dbf5df918d1d7fd5151ce12e7c9e2131614f5679089715f004"), looks := true }, kinds := [], alts := [], laidByText := true, laidKinds := [.handle], laidTests := true, laidLooks := .later }
def InputCountsCardSaid : Prop := Claim7.holds Tryd.pinned (.plain (OpenSpec.ofChange inputCountsSpec)) inputCountsCard

/-- THE TIED CARD OF 'milepostlaw05.InputJoins'. -/
def inputJoinsCard : Claim7 := { stood := { row := inputJoinsRow, standIns := [], harness := (true, "1cf4508417ae66dbf5df918d1d7fd5151ce12e7c9e2131614f5679089715f004"), looks := true }, kinds := [], alts := [], laidByText := true, laidKinds := [.handle], laidTests := true, laidLooks := .later }
def InputJoinsCardSaid : Prop := Claim7.holds Tryd.pinned (.plain (OpenSpec.ofChange inputJoinsSpec)) inputJoinsCard

/-- THE SECOND FORM's CARD OF 'milepostlaw05.InputReduces'. -/
def inputReducesUptoCard : Claim7 := { stood := { row := inputReducesUptoRow, standIns := [], harness := (true, "1cf4508417ae66dbf5df918d1d7fd5151ce12e7c9e2131614f5679089715f004"), looks := true }, kinds := [], alts := [], laidByText := true, laidKinds := [.handle], laidTests := true, laidLooks := .later }
def InputReducesUptoCardSaid : Prop := Claim7.holds Tryd.pinned (.plain (OpenSpec.upto inputReducesSpec)) inputReducesUptoCard

/-- THE SECOND FORM's CARD OF 'milepostlaw05.InputCounts'. -/
def inputCountsUptoCard : Claim7 := { stood := { row := inputCountsUptoRow, standIns := [], harness := (true, "1cf4508417ae66dbf5df918d1d7fd5151ce12e7c9e2131614f5679089715f004"), looks := true }, kinds := [], alts := [], laidByText := true, laidKinds := [.handle], laidTests := true, laidLooks := .later }
def InputCountsUptoCardSaid : Prop := Claim7.holds Tryd.pinned (.plain (OpenSpec.upto inputCountsSpec)) inputCountsUptoCard

/-- THE SECOND FORM's CARD OF 'milepostlaw05.InputJoins'. -/
def inputJoinsUptoCard : Claim7 := { stood := { row := inputJoinsUptoRow, standIns := [], harness := (true, "1cf4508417ae66dbf5df918d1d7fd5151ce12e7c9e2131614f5679089715f004"), looks := true }, kinds := [], alts := [], laidByText := true, laidKinds := [.handle], laidTests := true, laidLooks := .later }
def InputJoinsUptoCardSaid : Prop := Claim7.holds Tryd.pinned (.plain (OpenSpec.upto inputJoinsSpec)) inputJoinsUptoCard
end Rows
end Go.Proofs.YthckjpcknmmagaaDoor
