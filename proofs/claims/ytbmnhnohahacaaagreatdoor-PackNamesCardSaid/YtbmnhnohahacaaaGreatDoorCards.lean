/-
  DERIVED. GIVEN WITH THE SEED: THE CARDS: each row of YtbmnhnohahacaaaGreatDoorRows.lean that lists a variable, with what it lists TIED to the program's text (the seventh form; the later family's looks); each row that meets fmt, with fmt's text TOLD by the authors' own Lean function (tested against real Go, not proved from fmt's source: count such statements apart). THE CARD IS WHAT COUNTS. Prove the row's statement (the work); the ties are given (YtbmnhnohahacaaaGreatDoorTie.lean); close each card by the builder's one call (the guide's Derived/Test/ToyasCard.lean, 'card_holds'). Laid BY PROGRAM, IN A SANDBOX (cutbox-door.mjs). By AI agents, Wed Nov 11 2026. No macro, syntax, notation, axiom, sorry.
-/
import Derived.Test.YtbmnhnohahacaaaGreatDoorRows
import GoSem.ClaimSeven
namespace Go.Proofs.YtbmnhnohahacaaaGreatDoor
namespace Rows

/-- THE TIED CARD OF 'batonlaw24.PackWrites'. -/
def packWritesCard : Claim7 := { stood := { row := packWritesRow, standIns := [], harness := (true, "9129df61a9c952380f5342c564af52b180b82cb24c905d84d045aa2d498c0159"), looks := true }, kinds := [], alts := [], laidByText := true, laidKinds := [.data, .data, .data, .pinned], laidTests := true, laidLooks := .later }
def PackWritesCardSaid : Prop := Claim7.holds Tryz.pinned (.plain (OpenSpec.ofChange packWritesSpec)) packWritesCard

/-- THE TIED CARD OF 'batonlaw24.PackBack'. -/
def packBackCard : Claim7 := { stood := { row := packBackRow, standIns := [], harness := (true, "9129df61a9c952380f5342c564af52b180b82cb24c905d84d045aa2d498c0159"), looks := true }, kinds := [], alts := [], laidByText := true, laidKinds := [.data, .data, .data, .pinned], laidTests := true, laidLooks := .later }
def PackBackCardSaid : Prop := Claim7.holds Tryz.pinned (.plain (OpenSpec.ofChange packBackSpec)) packBackCard

/-- THE TIED CARD OF 'batonlaw24.PackShort'. -/
def packShortCard : Claim7 := { stood := { row := packShortRow, standIns := [], harness := (true, "9129df61a9c952380f5342c564af52b180b82cb24c905d84d045aa2d498c0159"), looks := true }, kinds := [], alts := [], laidByText := true, laidKinds := [.data, .data, .data, .pinned], laidTests := true, laidLooks := .later }
def PackShortCardSaid : Prop := Claim7.holds Tryz.pinned (.plain (OpenSpec.ofChange packShortSpec)) packShortCard

/-- THE TIED CARD OF 'batonlaw24.PackReads'. -/
def packReadsCard : Claim7 := { stood := { row := packReadsRow, standIns := [], harness := (true, "9129df61a9c952380f5342c564af52b180b82cb24c905d84d045aa2d498c0159"), looks := true }, kinds := [], alts := [], laidByText := true, laidKinds := [.data, .data, .data, .pinned], laidTests := true, laidLooks := .later }
def PackReadsCardSaid : Prop := Claim7.holds Tryz.pinned (.plain (OpenSpec.ofChange packReadsSpec)) packReadsCard

/-- THE TIED CARD OF 'batonlaw24.PackNames'. -/
def packNamesCard : Claim7 := { stood := { row := packNamesRow, standIns := [], harness := (true, "9129df61a9c952380f5342c564af52b180b82cb24c905d84d045aa2d498c0159"), looks := true }, kinds := [], alts := [], laidByText := true, laidKinds := [.data, .data, .data, .pinned], laidTests := true, laidLooks := .later }
def PackNamesCardSaid : Prop := Claim7.holds Tryz.pinned (.plain (OpenSpec.ofChange packNamesSpec)) packNamesCard

/-- THE TIED CARD OF 'batonlaw24.PackRecords'. -/
def packRecordsCard : Claim7 := { stood := { row := packRecordsRow, standIns := [], harness := (true, "9129df61a9c952380f5342c564af52b180b82cb24c905d84d045aa2d498c0159"), looks := true }, kinds := [], alts := [], laidByText := true, laidKinds := [.data, .data, .data, .pinned], laidTests := true, laidLooks := .later }
def PackRecordsCardSaid : Prop := Claim7.holds Tryz.pinned (.plain (OpenSpec.ofChange packRecordsSpec)) packRecordsCard

/-- THE TIED CARD OF 'batonlaw24.PackBent'. -/
def packBentCard : Claim7 := { stood := { row := packBentRow, standIns := [], harness := (true, "9129df61a9c952380f5342c564af52b180b82cb24c905d84d045aa2d498c0159"), looks := true }, kinds := [], alts := [], laidByText := true, laidKinds := [.data, .data, .data, .pinned], laidTests := true, laidLooks := .later }
def PackBentCardSaid : Prop := Claim7.holds Tryz.pinned (.plain (OpenSpec.ofChange packBentSpec)) packBentCard

/-- THE TIED CARD OF 'batonlaw24.PackCut'. -/
def packCutCard : Claim7 := { stood := { row := packCutRow, standIns := [], harness := (true, "9129df61a9c952380f5342c564af52b180b82cb24c905d84d045aa2d498c0159"), looks := true }, kinds := [], alts := [], laidByText := true, laidKinds := [.data, .data, .data, .pinned], laidTests := true, laidLooks := .later }
def PackCutCardSaid : Prop := Claim7.holds Tryz.pinned (.plain (OpenSpec.ofChange packCutSpec)) packCutCard

/-- THE SECOND FORM's CARD OF 'batonlaw24.PackWrites'. -/
def packWritesUptoCard : Claim7 := { stood := { row := packWritesUptoRow, standIns := [], harness := (true, "9129df61a9c952380f5342c564af52b180b82cb24c905d84d045aa2d498c0159"), looks := true }, kinds := [], alts := [], laidByText := true, laidKinds := [.data, .data, .data, .pinned], laidTests := true, laidLooks := .later }
def PackWritesUptoCardSaid : Prop := Claim7.holds Tryz.pinned (.plain (OpenSpec.upto packWritesSpec)) packWritesUptoCard

/-- THE SECOND FORM's CARD OF 'batonlaw24.PackBack'. -/
def packBackUptoCard : Claim7 := { stood := { row := packBackUptoRow, standIns := [], harness := (true, "9129df61a9c952380f5342c564af52b180b82cb24c905d84d045aa2d498c0159"), looks := true }, kinds := [], alts := [], laidByText := true, laidKinds := [.data, .data, .data, .pinned], laidTests := true, laidLooks := .later }
def PackBackUptoCardSaid : Prop := Claim7.holds Tryz.pinned (.plain (OpenSpec.upto packBackSpec)) packBackUptoCard

/-- THE SECOND FORM's CARD OF 'batonlaw24.PackShort'. -/
def packShortUptoCard : Claim7 := { stood := { row := packShortUptoRow, standIns := [], harness := (true, "9129df61a9c952380f5342c564af52b180b82cb24c905d84d045aa2d498c0159"), looks := true }, kinds := [], alts := [], laidByText := true, laidKinds := [.data, .data, .data, .pinned], laidTests := true, laidLooks := .later }
def PackShortUptoCardSaid : Prop := Claim7.holds Tryz.pinned (.plain (OpenSpec.upto packShortSpec)) packShortUptoCard

/-- THE SECOND FORM's CARD OF 'batonlaw24.PackReads'. -/
def packReadsUptoCard : Claim7 := { stood := { row := packReadsUptoRow, standIns := [], harness := (true, "9129df61a9c952380f5342c564af52b180b82cb24c905d84d045aa2d498c0159"), looks := true }, kinds := [], alts := [], laidByText := true, laidKinds := [.data, .data, .data, .pinned], laidTests := true, laidLooks := .later }
def PackReadsUptoCardSaid : Prop := Claim7.holds Tryz.pinned (.plain (OpenSpec.upto packReadsSpec)) packReadsUptoCard

/-- THE SECOND FORM's CARD OF 'batonlaw24.PackNames'. -/
def packNamesUptoCard : Claim7 := { stood := { row := packNamesUptoRow, standIns := [], harness := (true, "9129df61a9c952380f5342c564af52b180b82cb24c905d84d045aa2d498c0159"), looks := true }, kinds := [], alts := [], laidByText := true, laidKinds := [.data, .data, .data, .pinned], laidTests := true, laidLooks := .later }
def PackNamesUptoCardSaid : Prop := Claim7.holds Tryz.pinned (.plain (OpenSpec.upto packNamesSpec)) packNamesUptoCard

/-- THE SECOND FORM's CARD OF 'batonlaw24.PackRecords'. -/
def packRecordsUptoCard : Claim7 := { stood := { row := packRecordsUptoRow, standIns := [], harness := (true, "9129df61a9c952380f5342c564af52b180b82cb24c905d84d045aa2d498c0159"), looks := true }, kinds := [], alts := [], laidByText := true, laidKinds := [.data, .data, .data, .pinned], laidTests := true, laidLooks := .later }
def PackRecordsUptoCardSaid : Prop := Claim7.holds Tryz.pinned (.plain (OpenSpec.upto packRecordsSpec)) packRecordsUptoCard

/-- THE SECOND FORM's CARD OF 'batonlaw24.PackBent'. -/
def packBentUptoCard : Claim7 := { stood := { row := packBentUptoRow, standIns := [], harness := (true, "9129df61a9c952380f5342c564af52b180b82cb24c905d84d045aa2d498c0159"), looks := true }, kinds := [], alts := [], laidByText := true, laidKinds := [.data, .data, .data, .pinned], laidTests := true, laidLooks := .later }
def PackBentUptoCardSaid : Prop := Claim7.holds Tryz.pinned (.plain (OpenSpec.upto packBentSpec)) packBentUptoCard

/-- THE SECOND FORM's CARD OF 'batonlaw24.PackCut'. -/
def packCutUptoCard : Claim7 := { stood := { row := packCutUptoRow, standIns := [], harness := (true, "9129df61a9c952380f5342c564af52b180b82cb24c905d84d045aa2d498c0159"), looks := true }, kinds := [], alts := [], laidByText := true, laidKinds := [.data, .data, .data, .pinned], laidTests := true, laidLooks := .later }
def PackCutUptoCardSaid : Prop := Claim7.holds Tryz.pinned (.plain (OpenSpec.upto packCutSpec)) packCutUptoCard
end Rows
end Go.Proofs.YtbmnhnohahacaaaGreatDoor
