/-
  DERIVED. GIVEN WITH THE SEED: THE CARDS: each row of YtikgobndekgjcaaDoorRows.lean that lists a variable, with what it lists TIED to the program's text (the seventh form; the later family's looks); each row that meets fmt, with fmt's text TOLD by the authors' own Lean function (tested against real Go, not proved from fmt's source: count such statements apart). THE CARD IS WHAT COUNTS. Prove the row's statement (the work); the ties are given (YtikgobndekgjcaaDoorTie.lean); close each card by the builder's one call (the guide's Derived/Test/ToyasCard.lean, 'card_holds'). Laid BY PROGRAM, IN A SANDBOX (cutbox-door.mjs). By AI agents, Wed Nov 11 2026. No macro, syntax, notation, axiom, sorry.
-/
import Derived.Test.YtikgobndekgjcaaDoorRows
import GoSem.ClaimSeven
namespace Go.Proofs.YtikgobndekgjcaaDoor
namespace Rows

/-- THE TIED CARD OF 'milepostlaw05.InputChecks'. -/
def inputChecksCard : Claim7 := { stood := { row := inputChecksRow, standIns := [], harness := (true, "0f350f4ae122a4270a54b60522761eefbd319d3586dab03dc955aff64ca56bc7"), looks := true }, kinds := [], alts := [], laidByText := true, laidKinds := [.handle], laidTests := true, laidLooks := .later }
def InputChecksCardSaid : Prop := Claim7.holds Tryd.pinned (.plain (OpenSpec.ofChange inputChecksSpec)) inputChecksCard

/-- THE TIED CARD OF 'milepostlaw05.InputWrites'. -/
def inputWritesCard : Claim7 := { stood := { row := inputWritesRow, standIns := [], harness := (true, "0f350f4ae122a4270a54b60522761eefbd319d3586dab03dc955aff64ca56bc7"), looks := true }, kinds := [], alts := [], laidByText := true, laidKinds := [.handle], laidTests := true, laidLooks := .later }
def InputWritesCardSaid : Prop := Claim7.holds Tryd.pinned (.plain (OpenSpec.ofChange inputWritesSpec)) inputWritesCard

/-- THE TIED CARD OF 'milepostlaw05.InputBack'. -/
def inputBackCard : Claim7 := { stood := { row := inputBackRow, standIns := [], harness := (true, "0f350f4ae122a4270a54b60522761eefbd319d3586dab03dc955aff64ca56bc7"), looks := true }, kinds := [], alts := [], laidByText := true, laidKinds := [.handle], laidTests := true, laidLooks := .later }
def InputBackCardSaid : Prop := Claim7.holds Tryd.pinned (.plain (OpenSpec.ofChange inputBackSpec)) inputBackCard

/-- THE TIED CARD OF 'milepostlaw05.InputMore'. -/
def inputMoreCard : Claim7 := { stood := { row := inputMoreRow, standIns := [], harness := (true, "0f350f4ae122a4270a54b60522761eefbd319d3586dab03dc955aff64ca56bc7"), looks := true }, kinds := [], alts := [], laidByText := true, laidKinds := [.handle], laidTests := true, laidLooks := .later }
def InputMoreCardSaid : Prop := Claim7.holds Tryd.pinned (.plain (OpenSpec.ofChange inputMoreSpec)) inputMoreCard

/-- THE TIED CARD OF 'milepostlaw05.InputFaults'. -/
def inputFaultsCard : Claim7 := { stood := { row := inputFaultsRow, standIns := [], harness := (true, "0f350f4ae122a4270a54b60522761eefbd319d3586dab03dc955aff64ca56bc7"), looks := true }, kinds := [], alts := [], laidByText := true, laidKinds := [.handle], laidTests := true, laidLooks := .later }
def InputFaultsCardSaid : Prop := Claim7.holds Tryd.pinned (.plain (OpenSpec.ofChange inputFaultsSpec)) inputFaultsCard

/-- THE TIED CARD OF 'milepostlaw05.InputMarks'. -/
def inputMarksCard : Claim7 := { stood := { row := inputMarksRow, standIns := [], harness := (true, "0f350f4ae122a4270a54b60522761eefbd319d3586dab03dc955aff64ca56bc7"), looks := true }, kinds := [], alts := [], laidByText := true, laidKinds := [.handle], laidTests := true, laidLooks := .later }
def InputMarksCardSaid : Prop := Claim7.holds Tryd.pinned (.plain (OpenSpec.ofChange inputMarksSpec)) inputMarksCard

/-- THE TIED CARD OF 'milepostlaw05.InputHeads'. -/
def inputHeadsCard : Claim7 := { stood := { row := inputHeadsRow, standIns := [], harness := (true, "0f350f4ae122a4270a54b60522761eefbd319d3586dab03dc955aff64ca56bc7"), looks := true }, kinds := [], alts := [], laidByText := true, laidKinds := [.handle], laidTests := true, laidLooks := .later }
def InputHeadsCardSaid : Prop := Claim7.holds Tryd.pinned (.plain (OpenSpec.ofChange inputHeadsSpec)) inputHeadsCard

/-- THE TIED CARD OF 'milepostlaw05.InputRows'. -/
def inputRowsCard : Claim7 := { stood := { row := inputRowsRow, standIns := [], harness := (true, "0f350f4ae122a4270a54b60522761eefbd319d3586dab03dc955aff64ca56bc7"), looks := true }, kinds := [], alts := [], laidByText := true, laidKinds := [.handle], laidTests := true, laidLooks := .later }
def InputRowsCardSaid : Prop := Claim7.holds Tryd.pinned (.plain (OpenSpec.ofChange inputRowsSpec)) inputRowsCard

/-- THE TIED CARD OF 'milepostlaw05.InputReduces'. -/
def inputReducesCard : Claim7 := { stood := { row := inputReducesRow, standIns := [], harness := (true, "0f350f4ae122a4270a54b60522761eefbd319d3586dab03dc955aff64ca56bc7"), looks := true }, kinds := [], alts := [], laidByText := true, laidKinds := [.handle], laidTests := true, laidLooks := .later }
def InputReducesCardSaid : Prop := Claim7.holds Tryd.pinned (.plain (OpenSpec.ofChange inputReducesSpec)) inputReducesCard

/-- THE TIED CARD OF 'milepostlaw05.InputCounts'. -/
def inputCountsCard : Claim7 := { stood := { row := inputCountsRow, standIns := [], harness := (true, "0f350f4ae122a4270a54b60522761eefbd319d3586dab03dc955aff64ca56bc7"), looks := true }, kinds := [], alts := [], laidByText := true, laidKinds := [.handle], laidTests := true, laidLooks := .later }
def InputCountsCardSaid : Prop := Claim7.holds Tryd.pinned (.plain (OpenSpec.ofChange inputCountsSpec)) inputCountsCard

/-- THE TIED CARD OF 'milepostlaw05.InputJoins'. -/
def inputJoinsCard : Claim7 := { stood := { row := inputJoinsRow, standIns := [], harness := (true, "0f350f4ae122a4270a54b60522761eefbd319d3586dab03dc955aff64ca56bc7"), looks := true }, kinds := [], alts := [], laidByText := true, laidKinds := [.handle], laidTests := true, laidLooks := .later }
def InputJoinsCardSaid : Prop := Claim7.holds Tryd.pinned (.plain (OpenSpec.ofChange inputJoinsSpec)) inputJoinsCard

/-- THE SECOND FORM's CARD OF 'milepostlaw05.InputChecks'. -/
def inputChecksUptoCard : Claim7 := { stood := { row := inputChecksUptoRow, standIns := [], harness := (true, "0f350f4ae122a4270a54b60522761eefbd319d3586dab03dc955aff64ca56bc7"), looks := true }, kinds := [], alts := [], laidByText := true, laidKinds := [.handle], laidTests := true, laidLooks := .later }
def InputChecksUptoCardSaid : Prop := Claim7.holds Tryd.pinned (.plain (OpenSpec.upto inputChecksSpec)) inputChecksUptoCard

/-- THE SECOND FORM's CARD OF 'milepostlaw05.InputWrites'. -/
def inputWritesUptoCard : Claim7 := { stood := { row := inputWritesUptoRow, standIns := [], harness := (true, "0f350f4ae122a4270a54b60522761eefbd319d3586dab03dc955aff64ca56bc7"), looks := true }, kinds := [], alts := [], laidByText := true, laidKinds := [.handle], laidTests := true, laidLooks := .later }
def InputWritesUptoCardSaid : Prop := Claim7.holds Tryd.pinned (.plain (OpenSpec.upto inputWritesSpec)) inputWritesUptoCard

/-- THE SECOND FORM's CARD OF 'milepostlaw05.InputBack'. -/
def inputBackUptoCard : Claim7 := { stood := { row := inputBackUptoRow, standIns := [], harness := (true, "0f350f4ae122a4270a54b60522761eefbd319d3586dab03dc955aff64ca56bc7"), looks := true }, kinds := [], alts := [], laidByText := true, laidKinds := [.handle], laidTests := true, laidLooks := .later }
def InputBackUptoCardSaid : Prop := Claim7.holds Tryd.pinned (.plain (OpenSpec.upto inputBackSpec)) inputBackUptoCard

/-- THE SECOND FORM's CARD OF 'milepostlaw05.InputMore'. -/
def inputMoreUptoCard : Claim7 := { stood := { row := inputMoreUptoRow, standIns := [], harness := (true, "0f350f4ae122a4270a54b60522761eefbd319d3586dab03dc955aff64ca56bc7"), looks := true }, kinds := [], alts := [], laidByText := true, laidKinds := [.handle], laidTests := true, laidLooks := .later }
def InputMoreUptoCardSaid : Prop := Claim7.holds Tryd.pinned (.plain (OpenSpec.upto inputMoreSpec)) inputMoreUptoCard

/-- THE SECOND FORM's CARD OF 'milepostlaw05.InputFaults'. -/
def inputFaultsUptoCard : Claim7 := { stood := { row := inputFaultsUptoRow, standIns := [], harness := (true, "0f350f4ae122a4270a54b60522761eefbd319d3586dab03dc955aff64ca56bc7"), looks := true }, kinds := [], alts := [], laidByText := true, laidKinds := [.handle], laidTests := true, laidLooks := .later }
def InputFaultsUptoCardSaid : Prop := Claim7.holds Tryd.pinned (.plain (OpenSpec.upto inputFaultsSpec)) inputFaultsUptoCard

/-- THE SECOND FORM's CARD OF 'milepostlaw05.InputMarks'. -/
def inputMarksUptoCard : Claim7 := { stood := { row := inputMarksUptoRow, standIns := [], harness := (true, "0f350f4ae122a4270a54b60522761eefbd319d3586dab03dc955aff64ca56bc7"), looks := true }, kinds := [], alts := [], laidByText := true, laidKinds := [.handle], laidTests := true, laidLooks := .later }
def InputMarksUptoCardSaid : Prop := Claim7.holds Tryd.pinned (.plain (OpenSpec.upto inputMarksSpec)) inputMarksUptoCard

/-- THE SECOND FORM's CARD OF 'milepostlaw05.InputHeads'. -/
def inputHeadsUptoCard : Claim7 := { stood := { row := inputHeadsUptoRow, standIns := [], harness := (true, "0f350f4ae122a4270a54b60522761eefbd319d3586dab03dc955aff64ca56bc7"), looks := true }, kinds := [], alts := [], laidByText := true, laidKinds := [.handle], laidTests := true, laidLooks := .later }
def InputHeadsUptoCardSaid : Prop := Claim7.holds Tryd.pinned (.plain (OpenSpec.upto inputHeadsSpec)) inputHeadsUptoCard

/-- THE SECOND FORM's CARD OF 'milepostlaw05.InputRows'. -/
def inputRowsUptoCard : Claim7 := { stood := { row := inputRowsUptoRow, standIns := [], harness := (true, "0f350f4ae122a4270a54b60522761eefbd319d3586dab03dc955aff64ca56bc7"), looks := true }, kinds := [], alts := [], laidByText := true, laidKinds := [.handle], laidTests := true, laidLooks := .later }
def InputRowsUptoCardSaid : Prop := Claim7.holds Tryd.pinned (.plain (OpenSpec.upto inputRowsSpec)) inputRowsUptoCard

/-- THE SECOND FORM's CARD OF 'milepostlaw05.InputReduces'. -/
def inputReducesUptoCard : Claim7 := { stood := { row := inputReducesUptoRow, standIns := [], harness := (true, "0f350f4ae122a4270a54b60522761eefbd319d3586dab03dc955aff64ca56bc7"), looks := true }, kinds := [], alts := [], laidByText := true, laidKinds := [.handle], laidTests := true, laidLooks := .later }
def InputReducesUptoCardSaid : Prop := Claim7.holds Tryd.pinned (.plain (OpenSpec.upto inputReducesSpec)) inputReducesUptoCard

/-- THE SECOND FORM's CARD OF 'milepostlaw05.InputCounts'. -/
def inputCountsUptoCard : Claim7 := { stood := { row := inputCountsUptoRow, standIns := [], harness := (true, "0f350f4ae122a4270a54b60522761eefbd319d3586dab03dc955aff64ca56bc7"), looks := true }, kinds := [], alts := [], laidByText := true, laidKinds := [.handle], laidTests := true, laidLooks := .later }
def InputCountsUptoCardSaid : Prop := Claim7.holds Tryd.pinned (.plain (OpenSpec.upto inputCountsSpec)) inputCountsUptoCard

/-- THE SECOND FORM's CARD OF 'milepostlaw05.InputJoins'. -/
def inputJoinsUptoCard : Claim7 := { stood := { row := inputJoinsUptoRow, standIns := [], harness := (true, "0f350f4ae122a4270a54b60522761eefbd319d3586dab03dc955aff64ca56bc7"), looks := true }, kinds := [], alts := [], laidByText := true, laidKinds := [.handle], laidTests := true, laidLooks := .later }
def InputJoinsUptoCardSaid : Prop := Claim7.holds Tryd.pinned (.plain (OpenSpec.upto inputJoinsSpec)) inputJoinsUptoCard
end Rows
end Go.Proofs.YtikgobndekgjcaaDoor
