/-
  DERIVED. GIVEN WITH THE SEED: THE CARDS: each row of YtmlogeklbcgjnaaGreatDoorRows.lean that lists a variable, with what it lists TIED to the program's text (the seventh form; the later family's looks); each row that meets fmt, with fmt's text TOLD by the authors' own Lean function (tested against real Go, not proved from fmt's source: count such statements apart). THE CARD IS WHAT COUNTS. Prove the row's statement (the work); the ties are given (YtmlogeklbcgjnaaGreatDoorTie.lean); close each card by the builder's one call (the guide's Derived/Test/ToyasCard.lean, 'card_holds'). Laid BY PROGRAM, IN A SANDBOX (cutbox-door.mjs). By AI agents, Wed Nov 11 2026. No macro, syntax, notation, axiom, sorry.
-/
import Derived.Test.YtmlogeklbcgjnaaGreatDoorRows
import GoSem.ClaimSeven
namespace Go.Proofs.YtmlogeklbcgjnaaGreatDoor
namespace Rows

/-- THE TIED CARD OF 'maskkeep1.WidthSelected'. -/
def widthSelectedCard : Claim7 := { stood := { row := widthSelectedRow, standIns := [], harness := (true, "5af348173fd0c6410a823eb39f0a6e5752c4ab3cff38cb722bee8ea84d83fe17"), looks := false }, kinds := [], alts := [], laidByText := true, laidKinds := [.data, .data, .data, .data, .pinned], laidTests := true, laidLooks := .later }
def WidthSelectedCardSaid : Prop := Claim7.holds Tryz.pinned (.plain (OpenSpec.ofChange widthSelectedSpec)) widthSelectedCard

/-- THE SECOND FORM's CARD OF 'maskkeep1.WidthSelected'. -/
def widthSelectedUptoCard : Claim7 := { stood := { row := widthSelectedUptoRow, standIns := [], harness := (true, "5af348173fd0c6410a823eb39f0a6e5752c4ab3cff38cb722bee8ea84d83fe17"), looks := false }, kinds := [], alts := [], laidByText := true, laidKinds := [.data, .data, .data, .data, .pinned], laidTests := true, laidLooks := .later }
def WidthSelectedUptoCardSaid : Prop := Claim7.holds Tryz.pinned (.plain (OpenSpec.upto widthSelectedSpec)) widthSelectedUptoCard
end Rows
end Go.Proofs.YtmlogeklbcgjnaaGreatDoor
