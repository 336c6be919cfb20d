/-
  DERIVED. GIVEN WITH THE SEED: THE CARDS: each row of YtieocmaaloaoaaaDoorRows.lean that lists a variable, with what it lists TIED to the program's text (the seventh form; the later family's looks); each row that meets fmt, with fmt's text TOLD by the authors' own Lean function (tested against real Go, not proved from fmt's source: count such statements apart). THE CARD IS WHAT COUNTS. Prove the row's statement (the work); the ties are given (YtieocmaaloaoaaaDoorTie.lean); close each card by the builder's one call (the guide's Derived/Test/ToyasCard.lean, 'card_holds'). Laid BY PROGRAM, IN A SANDBOX (cutbox-door.mjs). By AI agents, Wed Nov 11 2026. No macro, syntax, notation, axiom, sorry.
-/
import Derived.Test.YtieocmaaloaoaaaDoorRows
import GoSem.ClaimSeven
namespace Go.Proofs.YtieocmaaloaoaaaDoor
namespace Rows

/-- THE TIED CARD OF 'maskkeep1.NotePlaced'. -/
def notePlacedCard : Claim7 := { stood := { row := notePlacedRow, standIns := [], harness := (true, "aa3c86d491b119b08d5ef39a992bc72b33f97c471199917ce70d197d6c69e579"), looks := true }, kinds := [], alts := [], laidByText := true, laidKinds := [.data, .pinned], laidTests := true, laidLooks := .later }
def NotePlacedCardSaid : Prop := Claim7.holds Tryd.pinned (.plain (OpenSpec.ofChange notePlacedSpec)) notePlacedCard

/-- THE TIED CARD OF 'maskkeep1.BitsReread'. -/
def bitsRereadCard : Claim7 := { stood := { row := bitsRereadRow, standIns := [], harness := (true, "aa3c86d491b119b08d5ef39a992bc72b33f97c471199917ce70d197d6c69e579"), looks := true }, kinds := [], alts := [], laidByText := true, laidKinds := [.data, .data, .data], laidTests := true, laidLooks := .later }
def BitsRereadCardSaid : Prop := Claim7.holds Tryd.pinned (.plain (OpenSpec.ofChange bitsRereadSpec)) bitsRereadCard

/-- THE TIED CARD OF 'maskkeep1.BitsWhole'. -/
def bitsWholeCard : Claim7 := { stood := { row := bitsWholeRow, standIns := [], harness := (true, "aa3c86d491b119b08d5ef39a992bc72b33f97c471199917ce70d197d6c69e579"), looks := true }, kinds := [], alts := [], laidByText := true, laidKinds := [.data, .data, .data], laidTests := true, laidLooks := .later }
def BitsWholeCardSaid : Prop := Claim7.holds Tryd.pinned (.plain (OpenSpec.ofChange bitsWholeSpec)) bitsWholeCard

/-- THE TIED CARD OF 'maskkeep1.BitsDual'. -/
def bitsDualCard : Claim7 := { stood := { row := bitsDualRow, standIns := [], harness := (true, "aa3c86d491b119b08d5ef39a992bc72b33f97c471199917ce70d197d6c69e579"), looks := true }, kinds := [], alts := [], laidByText := true, laidKinds := [.data, .data, .data], laidTests := true, laidLooks := .later }
def BitsDualCardSaid : Prop := Claim7.holds Tryd.pinned (.plain (OpenSpec.ofChange bitsDualSpec)) bitsDualCard

/-- THE TIED CARD OF 'maskkeep1.BitsArithmetic'. -/
def bitsArithmeticCard : Claim7 := { stood := { row := bitsArithmeticRow, standIns := [], harness := (true, "aa3c86d491b119b08d5ef39a992bc72b33f97c471199917ce70d197d6c69e579"), looks := true }, kinds := [], alts := [], laidByText := true, laidKinds := [.data, .data, .data], laidTests := true, laidLooks := .later }
def BitsArithmeticCardSaid : Prop := Claim7.holds Tryd.pinned (.plain (OpenSpec.ofChange bitsArithmeticSpec)) bitsArithmeticCard

/-- THE TIED CARD OF 'maskkeep1.BitsOrdered'. -/
def bitsOrderedCard : Claim7 := { stood := { row := bitsOrderedRow, standIns := [], harness := (true, "aa3c86d491b119b08d5ef39a992bc72b33f97c471199917ce70d197d6c69e579"), looks := true }, kinds := [], alts := [], laidByText := true, laidKinds := [.data, .data, .data], laidTests := true, laidLooks := .later }
def BitsOrderedCardSaid : Prop := Claim7.holds Tryd.pinned (.plain (OpenSpec.ofChange bitsOrderedSpec)) bitsOrderedCard

/-- THE TIED CARD OF 'maskkeep1.LexParts'. -/
def lexPartsCard : Claim7 := { stood := { row := lexPartsRow, standIns := [], harness := (true, "aa3c86d491b119b08d5ef39a992bc72b33f97c471199917ce70d197d6c69e579"), looks := true }, kinds := [], alts := [], laidByText := true, laidKinds := [.data, .pinned], laidTests := true, laidLooks := .later }
def LexPartsCardSaid : Prop := Claim7.holds Tryd.pinned (.plain (OpenSpec.ofChange lexPartsSpec)) lexPartsCard

/-- THE TIED CARD OF 'maskkeep1.BitsRefined'. -/
def bitsRefinedCard : Claim7 := { stood := { row := bitsRefinedRow, standIns := [], harness := (true, "aa3c86d491b119b08d5ef39a992bc72b33f97c471199917ce70d197d6c69e579"), looks := true }, kinds := [], alts := [], laidByText := true, laidKinds := [.data, .data, .data], laidTests := true, laidLooks := .later }
def BitsRefinedCardSaid : Prop := Claim7.holds Tryd.pinned (.plain (OpenSpec.ofChange bitsRefinedSpec)) bitsRefinedCard

/-- THE TIED CARD OF 'maskkeep1.LexPlaces'. -/
def lexPlacesCard : Claim7 := { stood := { row := lexPlacesRow, standIns := [], harness := (true, "aa3c86d491b119b08d5ef39a992bc72b33f97c471199917ce70d197d6c69e579"), looks := true }, kinds := [], alts := [], laidByText := true, laidKinds := [.data, .pinned], laidTests := true, laidLooks := .later }
def LexPlacesCardSaid : Prop := Claim7.holds Tryd.pinned (.plain (OpenSpec.ofChange lexPlacesSpec)) lexPlacesCard

/-- THE TIED CARD OF 'maskkeep1.NoteOrder'. -/
def noteOrderCard : Claim7 := { stood := { row := noteOrderRow, standIns := [], harness := (true, "aa3c86d491b119b08d5ef39a992bc72b33f97c471199917ce70d197d6c69e579"), looks := true }, kinds := [], alts := [], laidByText := true, laidKinds := [.data, .pinned], laidTests := true, laidLooks := .later }
def NoteOrderCardSaid : Prop := Claim7.holds Tryd.pinned (.plain (OpenSpec.ofChange noteOrderSpec)) noteOrderCard

/-- THE TIED CARD OF 'maskkeep1.NoteReread'. -/
def noteRereadCard : Claim7 := { stood := { row := noteRereadRow, standIns := [], harness := (true, "aa3c86d491b119b08d5ef39a992bc72b33f97c471199917ce70d197d6c69e579"), looks := true }, kinds := [], alts := [], laidByText := true, laidKinds := [.data, .data, .data, .data, .sentinel, .sentinel, .pinned], laidTests := true, laidLooks := .later }
def NoteRereadCardSaid : Prop := Claim7.holds Tryd.pinned (.plain (OpenSpec.ofChange noteRereadSpec)) noteRereadCard

/-- THE SECOND FORM's CARD OF 'maskkeep1.NotePlaced'. -/
def notePlacedUptoCard : Claim7 := { stood := { row := notePlacedUptoRow, standIns := [], harness := (true, "aa3c86d491b119b08d5ef39a992bc72b33f97c471199917ce70d197d6c69e579"), looks := true }, kinds := [], alts := [], laidByText := true, laidKinds := [.data, .pinned], laidTests := true, laidLooks := .later }
def NotePlacedUptoCardSaid : Prop := Claim7.holds Tryd.pinned (.plain (OpenSpec.upto notePlacedSpec)) notePlacedUptoCard

/-- THE SECOND FORM's CARD OF 'maskkeep1.BitsReread'. -/
def bitsRereadUptoCard : Claim7 := { stood := { row := bitsRereadUptoRow, standIns := [], harness := (true, "aa3c86d491b119b08d5ef39a992bc72b33f97c471199917ce70d197d6c69e579"), looks := true }, kinds := [], alts := [], laidByText := true, laidKinds := [.data, .data, .data], laidTests := true, laidLooks := .later }
def BitsRereadUptoCardSaid : Prop := Claim7.holds Tryd.pinned (.plain (OpenSpec.upto bitsRereadSpec)) bitsRereadUptoCard

/-- THE SECOND FORM's CARD OF 'maskkeep1.BitsWhole'. -/
def bitsWholeUptoCard : Claim7 := { stood := { row := bitsWholeUptoRow, standIns := [], harness := (true, "aa3c86d491b119b08d5ef39a992bc72b33f97c471199917ce70d197d6c69e579"), looks := true }, kinds := [], alts := [], laidByText := true, laidKinds := [.data, .data, .data], laidTests := true, laidLooks := .later }
def BitsWholeUptoCardSaid : Prop := Claim7.holds Tryd.pinned (.plain (OpenSpec.upto bitsWholeSpec)) bitsWholeUptoCard

/-- THE SECOND FORM's CARD OF 'maskkeep1.BitsDual'. -/
def bitsDualUptoCard : Claim7 := { stood := { row := bitsDualUptoRow, standIns := [], harness := (true, "aa3c86d491b119b08d5ef39a992bc72b33f97c471199917ce70d197d6c69e579"), looks := true }, kinds := [], alts := [], laidByText := true, laidKinds := [.data, .data, .data], laidTests := true, laidLooks := .later }
def BitsDualUptoCardSaid : Prop := Claim7.holds Tryd.pinned (.plain (OpenSpec.upto bitsDualSpec)) bitsDualUptoCard

/-- THE SECOND FORM's CARD OF 'maskkeep1.BitsArithmetic'. -/
def bitsArithmeticUptoCard : Claim7 := { stood := { row := bitsArithmeticUptoRow, standIns := [], harness := (true, "aa3c86d491b119b08d5ef39a992bc72b33f97c471199917ce70d197d6c69e579"), looks := true }, kinds := [], alts := [], laidByText := true, laidKinds := [.data, .data, .data], laidTests := true, laidLooks := .later }
def BitsArithmeticUptoCardSaid : Prop := Claim7.holds Tryd.pinned (.plain (OpenSpec.upto bitsArithmeticSpec)) bitsArithmeticUptoCard

/-- THE SECOND FORM's CARD OF 'maskkeep1.BitsOrdered'. -/
def bitsOrderedUptoCard : Claim7 := { stood := { row := bitsOrderedUptoRow, standIns := [], harness := (true, "aa3c86d491b119b08d5ef39a992bc72b33f97c471199917ce70d197d6c69e579"), looks := true }, kinds := [], alts := [], laidByText := true, laidKinds := [.data, .data, .data], laidTests := true, laidLooks := .later }
def BitsOrderedUptoCardSaid : Prop := Claim7.holds Tryd.pinned (.plain (OpenSpec.upto bitsOrderedSpec)) bitsOrderedUptoCard

/-- THE SECOND FORM's CARD OF 'maskkeep1.LexParts'. -/
def lexPartsUptoCard : Claim7 := { stood := { row := lexPartsUptoRow, standIns := [], harness := (true, "aa3c86d491b119b08d5ef39a992bc72b33f97c471199917ce70d197d6c69e579"), looks := true }, kinds := [], alts := [], laidByText := true, laidKinds := [.data, .pinned], laidTests := true, laidLooks := .later }
def LexPartsUptoCardSaid : Prop := Claim7.holds Tryd.pinned (.plain (OpenSpec.upto lexPartsSpec)) lexPartsUptoCard

/-- THE SECOND FORM's CARD OF 'maskkeep1.BitsRefined'. -/
def bitsRefinedUptoCard : Claim7 := { stood := { row := bitsRefinedUptoRow, standIns := [], harness := (true, "aa3c86d491b119b08d5ef39a992bc72b33f97c471199917ce70d197d6c69e579"), looks := true }, kinds := [], alts := [], laidByText := true, laidKinds := [.data, .data, .data], laidTests := true, laidLooks := .later }
def BitsRefinedUptoCardSaid : Prop := Claim7.holds Tryd.pinned (.plain (OpenSpec.upto bitsRefinedSpec)) bitsRefinedUptoCard

/-- THE SECOND FORM's CARD OF 'maskkeep1.LexPlaces'. -/
def lexPlacesUptoCard : Claim7 := { stood := { row := lexPlacesUptoRow, standIns := [], harness := (true, "aa3c86d491b119b08d5ef39a992bc72b33f97c471199917ce70d197d6c69e579"), looks := true }, kinds := [], alts := [], laidByText := true, laidKinds := [.data, .pinned], laidTests := true, laidLooks := .later }
def LexPlacesUptoCardSaid : Prop := Claim7.holds Tryd.pinned (.plain (OpenSpec.upto lexPlacesSpec)) lexPlacesUptoCard

/-- THE SECOND FORM's CARD OF 'maskkeep1.NoteOrder'. -/
def noteOrderUptoCard : Claim7 := { stood := { row := noteOrderUptoRow, standIns := [], harness := (true, "aa3c86d491b119b08d5ef39a992bc72b33f97c471199917ce70d197d6c69e579"), looks := true }, kinds := [], alts := [], laidByText := true, laidKinds := [.data, .pinned], laidTests := true, laidLooks := .later }
def NoteOrderUptoCardSaid : Prop := Claim7.holds Tryd.pinned (.plain (OpenSpec.upto noteOrderSpec)) noteOrderUptoCard

/-- THE SECOND FORM's CARD OF 'maskkeep1.NoteReread'. -/
def noteRereadUptoCard : Claim7 := { stood := { row := noteRereadUptoRow, standIns := [], harness := (true, "aa3c86d491b119b08d5ef39a992bc72b33f97c471199917ce70d197d6c69e579"), looks := true }, kinds := [], alts := [], laidByText := true, laidKinds := [.data, .data, .data, .data, .sentinel, .sentinel, .pinned], laidTests := true, laidLooks := .later }
def NoteRereadUptoCardSaid : Prop := Claim7.holds Tryd.pinned (.plain (OpenSpec.upto noteRereadSpec)) noteRereadUptoCard
end Rows
end Go.Proofs.YtieocmaaloaoaaaDoor
