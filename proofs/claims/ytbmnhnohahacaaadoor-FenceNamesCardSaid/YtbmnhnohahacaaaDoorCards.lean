/-
  DERIVED. GIVEN WITH THE SEED: THE CARDS: each row of YtbmnhnohahacaaaDoorRows.lean that lists a variable, with what it lists TIED to the program's text (the seventh form; the later family's looks); each row that meets fmt, with fmt's text TOLD by the authors' own Lean function (tested against real Go, not proved from fmt's source: count such statements apart). THE CARD IS WHAT COUNTS. Prove the row's statement (the work); the ties are given (YtbmnhnohahacaaaDoorTie.lean); close each card by the builder's one call (the guide's Derived/Test/ToyasCard.lean, 'card_holds'). Laid BY PROGRAM, IN A SANDBOX (cutbox-door.mjs). By AI agents, Wed Nov 11 2026. No macro, syntax, notation, axiom, sorry.
-/
import Derived.Test.YtbmnhnohahacaaaDoorRows
import GoSem.ClaimSeven
namespace Go.Proofs.YtbmnhnohahacaaaDoor
namespace Rows

/-- THE TIED CARD OF 'batonlaw23.FenceKept'. -/
def fenceKeptCard : Claim7 := { stood := { row := fenceKeptRow, standIns := [], harness := (true, "6178cab5968775716a479f3d29b96f7494ca613b3f4b2cb0b1cc817f40f348bd"), looks := true }, kinds := [], alts := [], laidByText := true, laidKinds := [.data, .pinned], laidTests := true, laidLooks := .later }
def FenceKeptCardSaid : Prop := Claim7.holds Tryd.pinned (.plain (OpenSpec.ofChange fenceKeptSpec)) fenceKeptCard

/-- THE TIED CARD OF 'batonlaw23.FenceNames'. -/
def fenceNamesCard : Claim7 := { stood := { row := fenceNamesRow, standIns := [], harness := (true, "6178cab5968775716a479f3d29b96f7494ca613b3f4b2cb0b1cc817f40f348bd"), looks := true }, kinds := [], alts := [], laidByText := true, laidKinds := [.data, .pinned], laidTests := true, laidLooks := .later }
def FenceNamesCardSaid : Prop := Claim7.holds Tryd.pinned (.plain (OpenSpec.ofChange fenceNamesSpec)) fenceNamesCard

/-- THE SECOND FORM's CARD OF 'batonlaw23.FenceKept'. -/
def fenceKeptUptoCard : Claim7 := { stood := { row := fenceKeptUptoRow, standIns := [], harness := (true, "6178cab5968775716a479f3d29b96f7494ca613b3f4b2cb0b1cc817f40f348bd"), looks := true }, kinds := [], alts := [], laidByText := true, laidKinds := [.data, .pinned], laidTests := true, laidLooks := .later }
def FenceKeptUptoCardSaid : Prop := Claim7.holds Tryd.pinned (.plain (OpenSpec.upto fenceKeptSpec)) fenceKeptUptoCard

/-- THE SECOND FORM's CARD OF 'batonlaw23.FenceNames'. -/
def fenceNamesUptoCard : Claim7 := { stood := { row := fenceNamesUptoRow, standIns := [], harness := (true, "6178cab5968775716a479f3d29b96f7494ca613b3f4b2cb0b1cc817f40f348bd"), looks := true }, kinds := [], alts := [], laidByText := true, laidKinds := [.data, .pinned], laidTests := true, laidLooks := .later }
def FenceNamesUptoCardSaid : Prop := Claim7.holds Tryd.pinned (.plain (OpenSpec.upto fenceNamesSpec)) fenceNamesUptoCard
end Rows
end Go.Proofs.YtbmnhnohahacaaaDoor
