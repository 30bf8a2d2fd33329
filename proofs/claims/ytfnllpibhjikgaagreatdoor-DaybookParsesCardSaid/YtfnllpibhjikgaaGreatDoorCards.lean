/-
  DERIVED. GIVEN WITH THE SEED: THE CARDS: each row of YtfnllpibhjikgaaGreatDoorRows.lean that lists a variable, with what it lists TIED to the program's text (the seventh form; the later family's looks); each row that meets fmt, with fmt's text TOLD by the authors' own Lean function (tested against real Go, not proved from fmt's source: count such statements apart). THE CARD IS WHAT COUNTS. Prove the row's statement (the work); the ties are given (YtfnllpibhjikgaaGreatDoorTie.lean); close each card by the builder's one call (the guide's Derived/Test/ToyasCard.lean, 'card_holds'). Laid BY PROGRAM, IN A SANDBOX (cutbox-door.mjs). By AI agents, Wed Nov 11 2026. No macro, syntax, notation, axiom, sorry.
-/
import Derived.Test.YtfnllpibhjikgaaGreatDoorRows
import GoSem.ClaimSeven
namespace Go.Proofs.YtfnllpibhjikgaaGreatDoor
namespace Rows

/-- THE TIED CARD OF 'mahlsticklaw10.DaybookLines'. -/
def daybookLinesCard : Claim7 := { stood := { row := daybookLinesRow, standIns := [], harness := (true, "db374e21a350982648678c3a88ba225ca0d465234a665943778f8e7451ca2820"), looks := true }, kinds := [], alts := [], laidByText := true, laidKinds := [.data, .data, .data, .data, .pinned], laidTests := true, laidLooks := .later }
def DaybookLinesCardSaid : Prop := Claim7.holds Tryz.pinned (.plain (OpenSpec.ofChange daybookLinesSpec)) daybookLinesCard

/-- THE TIED CARD OF 'mahlsticklaw10.DaybookParses'. -/
def daybookParsesCard : Claim7 := { stood := { row := daybookParsesRow, standIns := [], harness := (true, "db374e21a350982648678c3a88ba225ca0d465234a665943778f8e7451ca2820"), looks := true }, kinds := [], alts := [], laidByText := true, laidKinds := [.data, .data, .data, .data, .pinned], laidTests := true, laidLooks := .later }
def DaybookParsesCardSaid : Prop := Claim7.holds Tryz.pinned (.plain (OpenSpec.ofChange daybookParsesSpec)) daybookParsesCard

/-- THE TIED CARD OF 'mahlsticklaw10.DaybookNil'. -/
def daybookNilCard : Claim7 := { stood := { row := daybookNilRow, standIns := [], harness := (true, "db374e21a350982648678c3a88ba225ca0d465234a665943778f8e7451ca2820"), looks := true }, kinds := [], alts := [], laidByText := true, laidKinds := [.data, .data, .data, .data, .pinned], laidTests := true, laidLooks := .later }
def DaybookNilCardSaid : Prop := Claim7.holds Tryz.pinned (.plain (OpenSpec.ofChange daybookNilSpec)) daybookNilCard

/-- THE SECOND FORM's CARD OF 'mahlsticklaw10.DaybookLines'. -/
def daybookLinesUptoCard : Claim7 := { stood := { row := daybookLinesUptoRow, standIns := [], harness := (true, "db374e21a350982648678c3a88ba225ca0d465234a665943778f8e7451ca2820"), looks := true }, kinds := [], alts := [], laidByText := true, laidKinds := [.data, .data, .data, .data, .pinned], laidTests := true, laidLooks := .later }
def DaybookLinesUptoCardSaid : Prop := Claim7.holds Tryz.pinned (.plain (OpenSpec.upto daybookLinesSpec)) daybookLinesUptoCard

/-- THE SECOND FORM's CARD OF 'mahlsticklaw10.DaybookParses'. -/
def daybookParsesUptoCard : Claim7 := { stood := { row := daybookParsesUptoRow, standIns := [], harness := (true, "db374e21a350982648678c3a88ba225ca0d465234a665943778f8e7451ca2820"), looks := true }, kinds := [], alts := [], laidByText := true, laidKinds := [.data, .data, .data, .data, .pinned], laidTests := true, laidLooks := .later }
def DaybookParsesUptoCardSaid : Prop := Claim7.holds Tryz.pinned (.plain (OpenSpec.upto daybookParsesSpec)) daybookParsesUptoCard

/-- THE SECOND FORM's CARD OF 'mahlsticklaw10.DaybookNil'. -/
def daybookNilUptoCard : Claim7 := { stood := { row := daybookNilUptoRow, standIns := [], harness := (true, "db374e21a350982648678c3a88ba225ca0d465234a665943778f8e7451ca2820"), looks := true }, kinds := [], alts := [], laidByText := true, laidKinds := [.data, .data, .data, .data, .pinned], laidTests := true, laidLooks := .later }
def DaybookNilUptoCardSaid : Prop := Claim7.holds Tryz.pinned (.plain (OpenSpec.upto daybookNilSpec)) daybookNilUptoCard
end Rows
end Go.Proofs.YtfnllpibhjikgaaGreatDoor
