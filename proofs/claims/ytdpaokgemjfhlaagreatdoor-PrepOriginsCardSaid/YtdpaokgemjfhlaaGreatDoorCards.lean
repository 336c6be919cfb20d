/-
  DERIVED. GIVEN WITH THE SEED: THE CARDS: each row of YtdpaokgemjfhlaaGreatDoorRows.lean that lists a variable, with what it lists TIED to the program's text (the seventh form; the later family's looks); each row that meets fmt, with fmt's text TOLD by the authors' own Lean function (tested against real Go, not proved from fmt's source: count such statements apart). THE CARD IS WHAT COUNTS. Prove the row's statement (the work); the ties are given (YtdpaokgemjfhlaaGreatDoorTie.lean); close each card by the builder's one call (the guide's Derived/Test/ToyasCard.lean, 'card_holds'). Laid BY PROGRAM, IN A SANDBOX (cutbox-door.mjs). By AI agents, Wed Nov 11 2026. No macro, syntax, notation, axiom, sorry.
-/
import Derived.Test.YtdpaokgemjfhlaaGreatDoorRows
import GoSem.ClaimSeven
namespace Go.Proofs.YtdpaokgemjfhlaaGreatDoor
namespace Rows

/-- THE TIED CARD OF 'maskkeep1.PrepPlain'. -/
def prepPlainCard : Claim7 := { stood := { row := prepPlainRow, standIns := [], harness := (true, "6fc0d67767b1e2f5bcaba027f1b5bc4d1e10d0510e14f7a8eb4a6f99e26c5b53"), looks := false }, kinds := [], alts := [], laidByText := true, laidKinds := [.data, .pinned], laidTests := true, laidLooks := .later }
def PrepPlainCardSaid : Prop := Claim7.holds Tryz.pinned (.plain (OpenSpec.ofChange prepPlainSpec)) prepPlainCard

/-- THE TIED CARD OF 'maskkeep1.PrepNested'. -/
def prepNestedCard : Claim7 := { stood := { row := prepNestedRow, standIns := [], harness := (true, "6fc0d67767b1e2f5bcaba027f1b5bc4d1e10d0510e14f7a8eb4a6f99e26c5b53"), looks := false }, kinds := [], alts := [], laidByText := true, laidKinds := [.data, .data, .data, .data, .pinned], laidTests := true, laidLooks := .later }
def PrepNestedCardSaid : Prop := Claim7.holds Tryz.pinned (.plain (OpenSpec.ofChange prepNestedSpec)) prepNestedCard

/-- THE TIED CARD OF 'maskkeep1.PrepOrigins'. -/
def prepOriginsCard : Claim7 := { stood := { row := prepOriginsRow, standIns := [], harness := (true, "6fc0d67767b1e2f5bcaba027f1b5bc4d1e10d0510e14f7a8eb4a6f99e26c5b53"), looks := false }, kinds := [], alts := [], laidByText := true, laidKinds := [.data, .data, .data, .data, .pinned], laidTests := true, laidLooks := .later }
def PrepOriginsCardSaid : Prop := Claim7.holds Tryz.pinned (.plain (OpenSpec.ofChange prepOriginsSpec)) prepOriginsCard

/-- THE TIED CARD OF 'maskkeep1.PrepChosen'. -/
def prepChosenCard : Claim7 := { stood := { row := prepChosenRow, standIns := [], harness := (true, "6fc0d67767b1e2f5bcaba027f1b5bc4d1e10d0510e14f7a8eb4a6f99e26c5b53"), looks := false }, kinds := [], alts := [], laidByText := true, laidKinds := [.data, .data, .data, .data, .pinned], laidTests := true, laidLooks := .later }
def PrepChosenCardSaid : Prop := Claim7.holds Tryz.pinned (.plain (OpenSpec.ofChange prepChosenSpec)) prepChosenCard

/-- THE TIED CARD OF 'maskkeep1.PrepArguments'. -/
def prepArgumentsCard : Claim7 := { stood := { row := prepArgumentsRow, standIns := [], harness := (true, "6fc0d67767b1e2f5bcaba027f1b5bc4d1e10d0510e14f7a8eb4a6f99e26c5b53"), looks := false }, kinds := [], alts := [], laidByText := true, laidKinds := [.data, .data, .data, .data, .pinned], laidTests := true, laidLooks := .later }
def PrepArgumentsCardSaid : Prop := Claim7.holds Tryz.pinned (.plain (OpenSpec.ofChange prepArgumentsSpec)) prepArgumentsCard

/-- THE SECOND FORM's CARD OF 'maskkeep1.PrepPlain'. -/
def prepPlainUptoCard : Claim7 := { stood := { row := prepPlainUptoRow, standIns := [], harness := (true, "6fc0d67767b1e2f5bcaba027f1b5bc4d1e10d0510e14f7a8eb4a6f99e26c5b53"), looks := false }, kinds := [], alts := [], laidByText := true, laidKinds := [.data, .pinned], laidTests := true, laidLooks := .later }
def PrepPlainUptoCardSaid : Prop := Claim7.holds Tryz.pinned (.plain (OpenSpec.upto prepPlainSpec)) prepPlainUptoCard

/-- THE SECOND FORM's CARD OF 'maskkeep1.PrepNested'. -/
def prepNestedUptoCard : Claim7 := { stood := { row := prepNestedUptoRow, standIns := [], harness := (true, "6fc0d67767b1e2f5bcaba027f1b5bc4d1e10d0510e14f7a8eb4a6f99e26c5b53"), looks := false }, kinds := [], alts := [], laidByText := true, laidKinds := [.data, .data, .data, .data, .pinned], laidTests := true, laidLooks := .later }
def PrepNestedUptoCardSaid : Prop := Claim7.holds Tryz.pinned (.plain (OpenSpec.upto prepNestedSpec)) prepNestedUptoCard

/-- THE SECOND FORM's CARD OF 'maskkeep1.PrepOrigins'. -/
def prepOriginsUptoCard : Claim7 := { stood := { row := prepOriginsUptoRow, standIns := [], harness := (true, "6fc0d67767b1e2f5bcaba027f1b5bc4d1e10d0510e14f7a8eb4a6f99e26c5b53"), looks := false }, kinds := [], alts := [], laidByText := true, laidKinds := [.data, .data, .data, .data, .pinned], laidTests := true, laidLooks := .later }
def PrepOriginsUptoCardSaid : Prop := Claim7.holds Tryz.pinned (.plain (OpenSpec.upto prepOriginsSpec)) prepOriginsUptoCard

/-- THE SECOND FORM's CARD OF 'maskkeep1.PrepChosen'. -/
def prepChosenUptoCard : Claim7 := { stood := { row := prepChosenUptoRow, standIns := [], harness := (true, "6fc0d67767b1e2f5bcaba027f1b5bc4d1e10d0510e14f7a8eb4a6f99e26c5b53"), looks := false }, kinds := [], alts := [], laidByText := true, laidKinds := [.data, .data, .data, .data, .pinned], laidTests := true, laidLooks := .later }
def PrepChosenUptoCardSaid : Prop := Claim7.holds Tryz.pinned (.plain (OpenSpec.upto prepChosenSpec)) prepChosenUptoCard

/-- THE SECOND FORM's CARD OF 'maskkeep1.PrepArguments'. -/
def prepArgumentsUptoCard : Claim7 := { stood := { row := prepArgumentsUptoRow, standIns := [], harness := (true, "6fc0d67767b1e2f5bcaba027f1b5bc4d1e10d0510e14f7a8eb4a6f99e26c5b53"), looks := false }, kinds := [], alts := [], laidByText := true, laidKinds := [.data, .data, .data, .data, .pinned], laidTests := true, laidLooks := .later }
def PrepArgumentsUptoCardSaid : Prop := Claim7.holds Tryz.pinned (.plain (OpenSpec.upto prepArgumentsSpec)) prepArgumentsUptoCard
end Rows
end Go.Proofs.YtdpaokgemjfhlaaGreatDoor
