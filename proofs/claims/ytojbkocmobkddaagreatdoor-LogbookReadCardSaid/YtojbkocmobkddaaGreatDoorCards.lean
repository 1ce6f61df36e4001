/-
  DERIVED. GIVEN WITH THE SEED: THE CARDS: each row of YtojbkocmobkddaaGreatDoorRows.lean that lists a variable, with what it lists TIED to the program's text (the seventh form; the later family's looks); each row that meets fmt, with fmt's text TOLD by the authors' own Lean function (tested against real Go, not proved from fmt's source: count such statements apart). THE CARD IS WHAT COUNTS. Prove the row's statement (the work); the ties are given (YtojbkocmobkddaaGreatDoorTie.lean); close each card by the builder's one call (the guide's Derived/Test/ToyasCard.lean, 'card_holds'). Laid BY PROGRAM, IN A SANDBOX (cutbox-door.mjs). By AI agents, Wed Nov 11 2026. No macro, syntax, notation, axiom, sorry.
-/
import Derived.Test.YtojbkocmobkddaaGreatDoorRows
import GoSem.ClaimSeven
namespace Go.Proofs.YtojbkocmobkddaaGreatDoor
namespace Rows

/-- THE TIED CARD OF 'agoniclaw14.LogbookParts'. -/
def logbookPartsCard : Claim7 := { stood := { row := logbookPartsRow, standIns := [], harness := (true, "9415c83eefa27644e2ade7c165e46198dd85638c5201e354479aed7b7b308c97"), looks := true }, kinds := [], alts := [], laidByText := true, laidKinds := [.data, .data, .data, .data, .sentinel, .sentinel, .widerDeep, .pinned], laidTests := true, laidLooks := .later }
def LogbookPartsCardSaid : Prop := Claim7.holds Tryz.pinned (.plain (OpenSpec.ofChange logbookPartsSpec)) logbookPartsCard

/-- THE TIED CARD OF 'agoniclaw14.LogbookKnown'. -/
def logbookKnownCard : Claim7 := { stood := { row := logbookKnownRow, standIns := [], harness := (true, "9415c83eefa27644e2ade7c165e46198dd85638c5201e354479aed7b7b308c97"), looks := true }, kinds := [], alts := [], laidByText := true, laidKinds := [.data, .data, .data, .data, .sentinel, .sentinel, .widerDeep, .pinned], laidTests := true, laidLooks := .later }
def LogbookKnownCardSaid : Prop := Claim7.holds Tryz.pinned (.plain (OpenSpec.ofChange logbookKnownSpec)) logbookKnownCard

/-- THE TIED CARD OF 'agoniclaw14.LogbookFewest'. -/
def logbookFewestCard : Claim7 := { stood := { row := logbookFewestRow, standIns := [], harness := (true, "9415c83eefa27644e2ade7c165e46198dd85638c5201e354479aed7b7b308c97"), looks := true }, kinds := [], alts := [], laidByText := true, laidKinds := [.data, .data, .data, .data, .sentinel, .sentinel, .widerDeep, .pinned], laidTests := true, laidLooks := .later }
def LogbookFewestCardSaid : Prop := Claim7.holds Tryz.pinned (.plain (OpenSpec.ofChange logbookFewestSpec)) logbookFewestCard

/-- THE TIED CARD OF 'agoniclaw14.LogbookSwaps'. -/
def logbookSwapsCard : Claim7 := { stood := { row := logbookSwapsRow, standIns := [], harness := (true, "9415c83eefa27644e2ade7c165e46198dd85638c5201e354479aed7b7b308c97"), looks := true }, kinds := [], alts := [], laidByText := true, laidKinds := [.data, .data, .data, .data, .sentinel, .sentinel, .widerDeep, .pinned], laidTests := true, laidLooks := .later }
def LogbookSwapsCardSaid : Prop := Claim7.holds Tryz.pinned (.plain (OpenSpec.ofChange logbookSwapsSpec)) logbookSwapsCard

/-- THE TIED CARD OF 'agoniclaw14.LogbookLines'. -/
def logbookLinesCard : Claim7 := { stood := { row := logbookLinesRow, standIns := [], harness := (true, "9415c83eefa27644e2ade7c165e46198dd85638c5201e354479aed7b7b308c97"), looks := true }, kinds := [], alts := [], laidByText := true, laidKinds := [.data, .data, .data, .data, .sentinel, .sentinel, .widerDeep, .pinned], laidTests := true, laidLooks := .later }
def LogbookLinesCardSaid : Prop := Claim7.holds Tryz.pinned (.plain (OpenSpec.ofChange logbookLinesSpec)) logbookLinesCard

/-- THE TIED CARD OF 'agoniclaw14.LogbookNone'. -/
def logbookNoneCard : Claim7 := { stood := { row := logbookNoneRow, standIns := [], harness := (true, "9415c83eefa27644e2ade7c165e46198dd85638c5201e354479aed7b7b308c97"), looks := true }, kinds := [], alts := [], laidByText := true, laidKinds := [.data, .data, .data, .data, .sentinel, .sentinel, .widerDeep, .pinned], laidTests := true, laidLooks := .later }
def LogbookNoneCardSaid : Prop := Claim7.holds Tryz.pinned (.plain (OpenSpec.ofChange logbookNoneSpec)) logbookNoneCard

/-- THE TIED CARD OF 'agoniclaw14.LogbookKept'. -/
def logbookKeptCard : Claim7 := { stood := { row := logbookKeptRow, standIns := [], harness := (true, "9415c83eefa27644e2ade7c165e46198dd85638c5201e354479aed7b7b308c97"), looks := true }, kinds := [], alts := [], laidByText := true, laidKinds := [.data, .data, .data, .data, .sentinel, .sentinel, .widerDeep, .pinned], laidTests := true, laidLooks := .later }
def LogbookKeptCardSaid : Prop := Claim7.holds Tryz.pinned (.plain (OpenSpec.ofChange logbookKeptSpec)) logbookKeptCard

/-- THE TIED CARD OF 'agoniclaw14.LogbookWhere'. -/
def logbookWhereCard : Claim7 := { stood := { row := logbookWhereRow, standIns := [], harness := (true, "9415c83eefa27644e2ade7c165e46198dd85638c5201e354479aed7b7b308c97"), looks := true }, kinds := [], alts := [], laidByText := true, laidKinds := [.data, .data, .data, .data, .sentinel, .sentinel, .widerDeep, .pinned], laidTests := true, laidLooks := .later }
def LogbookWhereCardSaid : Prop := Claim7.holds Tryz.pinned (.plain (OpenSpec.ofChange logbookWhereSpec)) logbookWhereCard

/-- THE TIED CARD OF 'agoniclaw14.LogbookRead'. -/
def logbookReadCard : Claim7 := { stood := { row := logbookReadRow, standIns := [], harness := (true, "9415c83eefa27644e2ade7c165e46198dd85638c5201e354479aed7b7b308c97"), looks := true }, kinds := [], alts := [], laidByText := true, laidKinds := [.data, .data, .data, .data, .sentinel, .sentinel, .widerDeep, .pinned], laidTests := true, laidLooks := .later }
def LogbookReadCardSaid : Prop := Claim7.holds Tryz.pinned (.plain (OpenSpec.ofChange logbookReadSpec)) logbookReadCard

/-- THE TIED CARD OF 'agoniclaw14.LogbookFiles'. -/
def logbookFilesCard : Claim7 := { stood := { row := logbookFilesRow, standIns := [], harness := (true, "9415c83eefa27644e2ade7c165e46198dd85638c5201e354479aed7b7b308c97"), looks := true }, kinds := [], alts := [], laidByText := true, laidKinds := [.data, .data, .data, .data, .sentinel, .sentinel, .widerDeep, .pinned], laidTests := true, laidLooks := .later }
def LogbookFilesCardSaid : Prop := Claim7.holds Tryz.pinned (.plain (OpenSpec.ofChange logbookFilesSpec)) logbookFilesCard

/-- THE SECOND FORM's CARD OF 'agoniclaw14.LogbookParts'. -/
def logbookPartsUptoCard : Claim7 := { stood := { row := logbookPartsUptoRow, standIns := [], harness := (true, "9415c83eefa27644e2ade7c165e46198dd85638c5201e354479aed7b7b308c97"), looks := true }, kinds := [], alts := [], laidByText := true, laidKinds := [.data, .data, .data, .data, .sentinel, .sentinel, .widerDeep, .pinned], laidTests := true, laidLooks := .later }
def LogbookPartsUptoCardSaid : Prop := Claim7.holds Tryz.pinned (.plain (OpenSpec.upto logbookPartsSpec)) logbookPartsUptoCard

/-- THE SECOND FORM's CARD OF 'agoniclaw14.LogbookKnown'. -/
def logbookKnownUptoCard : Claim7 := { stood := { row := logbookKnownUptoRow, standIns := [], harness := (true, "9415c83eefa27644e2ade7c165e46198dd85638c5201e354479aed7b7b308c97"), looks := true }, kinds := [], alts := [], laidByText := true, laidKinds := [.data, .data, .data, .data, .sentinel, .sentinel, .widerDeep, .pinned], laidTests := true, laidLooks := .later }
def LogbookKnownUptoCardSaid : Prop := Claim7.holds Tryz.pinned (.plain (OpenSpec.upto logbookKnownSpec)) logbookKnownUptoCard

/-- THE SECOND FORM's CARD OF 'agoniclaw14.LogbookFewest'. -/
def logbookFewestUptoCard : Claim7 := { stood := { row := logbookFewestUptoRow, standIns := [], harness := (true, "9415c83eefa27644e2ade7c165e46198dd85638c5201e354479aed7b7b308c97"), looks := true }, kinds := [], alts := [], laidByText := true, laidKinds := [.data, .data, .data, .data, .sentinel, .sentinel, .widerDeep, .pinned], laidTests := true, laidLooks := .later }
def LogbookFewestUptoCardSaid : Prop := Claim7.holds Tryz.pinned (.plain (OpenSpec.upto logbookFewestSpec)) logbookFewestUptoCard

/-- THE SECOND FORM's CARD OF 'agoniclaw14.LogbookSwaps'. -/
def logbookSwapsUptoCard : Claim7 := { stood := { row := logbookSwapsUptoRow, standIns := [], harness := (true, "9415c83eefa27644e2ade7c165e46198dd85638c5201e354479aed7b7b308c97"), looks := true }, kinds := [], alts := [], laidByText := true, laidKinds := [.data, .data, .data, .data, .sentinel, .sentinel, .widerDeep, .pinned], laidTests := true, laidLooks := .later }
def LogbookSwapsUptoCardSaid : Prop := Claim7.holds Tryz.pinned (.plain (OpenSpec.upto logbookSwapsSpec)) logbookSwapsUptoCard

/-- THE SECOND FORM's CARD OF 'agoniclaw14.LogbookLines'. -/
def logbookLinesUptoCard : Claim7 := { stood := { row := logbookLinesUptoRow, standIns := [], harness := (true, "9415c83eefa27644e2ade7c165e46198dd85638c5201e354479aed7b7b308c97"), looks := true }, kinds := [], alts := [], laidByText := true, laidKinds := [.data, .data, .data, .data, .sentinel, .sentinel, .widerDeep, .pinned], laidTests := true, laidLooks := .later }
def LogbookLinesUptoCardSaid : Prop := Claim7.holds Tryz.pinned (.plain (OpenSpec.upto logbookLinesSpec)) logbookLinesUptoCard

/-- THE SECOND FORM's CARD OF 'agoniclaw14.LogbookNone'. -/
def logbookNoneUptoCard : Claim7 := { stood := { row := logbookNoneUptoRow, standIns := [], harness := (true, "9415c83eefa27644e2ade7c165e46198dd85638c5201e354479aed7b7b308c97"), looks := true }, kinds := [], alts := [], laidByText := true, laidKinds := [.data, .data, .data, .data, .sentinel, .sentinel, .widerDeep, .pinned], laidTests := true, laidLooks := .later }
def LogbookNoneUptoCardSaid : Prop := Claim7.holds Tryz.pinned (.plain (OpenSpec.upto logbookNoneSpec)) logbookNoneUptoCard

/-- THE SECOND FORM's CARD OF 'agoniclaw14.LogbookKept'. -/
def logbookKeptUptoCard : Claim7 := { stood := { row := logbookKeptUptoRow, standIns := [], harness := (true, "9415c83eefa27644e2ade7c165e46198dd85638c5201e354479aed7b7b308c97"), looks := true }, kinds := [], alts := [], laidByText := true, laidKinds := [.data, .data, .data, .data, .sentinel, .sentinel, .widerDeep, .pinned], laidTests := true, laidLooks := .later }
def LogbookKeptUptoCardSaid : Prop := Claim7.holds Tryz.pinned (.plain (OpenSpec.upto logbookKeptSpec)) logbookKeptUptoCard

/-- THE SECOND FORM's CARD OF 'agoniclaw14.LogbookWhere'. -/
def logbookWhereUptoCard : Claim7 := { stood := { row := logbookWhereUptoRow, standIns := [], harness := (true, "9415c83eefa27644e2ade7c165e46198dd85638c5201e354479aed7b7b308c97"), looks := true }, kinds := [], alts := [], laidByText := true, laidKinds := [.data, .data, .data, .data, .sentinel, .sentinel, .widerDeep, .pinned], laidTests := true, laidLooks := .later }
def LogbookWhereUptoCardSaid : Prop := Claim7.holds Tryz.pinned (.plain (OpenSpec.upto logbookWhereSpec)) logbookWhereUptoCard

/-- THE SECOND FORM's CARD OF 'agoniclaw14.LogbookRead'. -/
def logbookReadUptoCard : Claim7 := { stood := { row := logbookReadUptoRow, standIns := [], harness := (true, "9415c83eefa27644e2ade7c165e46198dd85638c5201e354479aed7b7b308c97"), looks := true }, kinds := [], alts := [], laidByText := true, laidKinds := [.data, .data, .data, .data, .sentinel, .sentinel, .widerDeep, .pinned], laidTests := true, laidLooks := .later }
def LogbookReadUptoCardSaid : Prop := Claim7.holds Tryz.pinned (.plain (OpenSpec.upto logbookReadSpec)) logbookReadUptoCard

/-- THE SECOND FORM's CARD OF 'agoniclaw14.LogbookFiles'. -/
def logbookFilesUptoCard : Claim7 := { stood := { row := logbookFilesUptoRow, standIns := [], harness := (true, "9415c83eefa27644e2ade7c165e46198dd85638c5201e354479aed7b7b308c97"), looks := true }, kinds := [], alts := [], laidByText := true, laidKinds := [.data, .data, .data, .data, .sentinel, .sentinel, .widerDeep, .pinned], laidTests := true, laidLooks := .later }
def LogbookFilesUptoCardSaid : Prop := Claim7.holds Tryz.pinned (.plain (OpenSpec.upto logbookFilesSpec)) logbookFilesUptoCard
end Rows
end Go.Proofs.YtojbkocmobkddaaGreatDoor
