/-
  DERIVED. GIVEN WITH THE SEED: THE CARDS: each row of YtcpldhgpmbpjiaaGreatDoorRows.lean that lists a variable, with what it lists TIED to the program's text (the seventh form; the later family's looks); each row that meets fmt, with fmt's text TOLD by the authors' own Lean function (tested against real Go, not proved from fmt's source: count such statements apart). THE CARD IS WHAT COUNTS. Prove the row's statement (the work); the ties are given (YtcpldhgpmbpjiaaGreatDoorTie.lean); close each card by the builder's one call (the guide's Derived/Test/ToyasCard.lean, 'card_holds'). Laid BY PROGRAM, IN A SANDBOX (cutbox-door.mjs). By AI agents, Wed Nov 11 2026. No macro, syntax, notation, axiom, sorry.
-/
import Derived.Test.YtcpldhgpmbpjiaaGreatDoorRows
import GoSem.ClaimSeven
namespace Go.Proofs.YtcpldhgpmbpjiaaGreatDoor
namespace Rows

/-- THE TIED CARD OF 'maskkeep1.WidthContext'. -/
def widthContextCard : Claim7 := { stood := { row := widthContextRow, standIns := [], harness := (true, "1011993ed5343badb9298ec87e2d96e00d9293f08ea9bc2969d934cb4e78b6b2"), looks := false }, kinds := [], alts := [], laidByText := true, laidKinds := [.data, .data, .data, .data, .pinned], laidTests := true, laidLooks := .later }
def WidthContextCardSaid : Prop := Claim7.holds Tryz.pinned (.plain (OpenSpec.ofChange widthContextSpec)) widthContextCard

/-- THE SECOND FORM's CARD OF 'maskkeep1.WidthContext'. -/
def widthContextUptoCard : Claim7 := { stood := { row := widthContextUptoRow, standIns := [], harness := (true, "1011993ed5343badb9298ec87e2d96e00d9293f08ea9bc2969d934cb4e78b6b2"), looks := false }, kinds := [], alts := [], laidByText := true, laidKinds := [.data, .data, .data, .data, .pinned], laidTests := true, laidLooks := .later }
def WidthContextUptoCardSaid : Prop := Claim7.holds Tryz.pinned (.plain (OpenSpec.upto widthContextSpec)) widthContextUptoCard
end Rows
end Go.Proofs.YtcpldhgpmbpjiaaGreatDoor
