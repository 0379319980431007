/-
  DERIVED. GIVEN WITH THE SEED: THE CARDS: each row of YtgjffkicbajbfaaDoorRows.lean that lists a variable, with what it lists TIED to the program's text (the seventh form; the later family's looks); each row that meets fmt, with fmt's text TOLD by the authors' own Lean function (tested against real Go, not proved from fmt's source: count such statements apart). THE CARD IS WHAT COUNTS. Prove the row's statement (the work); the ties are given (YtgjffkicbajbfaaDoorTie.lean); close each card by the builder's one call (the guide's Derived/Test/ToyasCard.lean, 'card_holds'). Laid BY PROGRAM, IN A SANDBOX (cutbox-door.mjs). By AI agents, Wed Nov 11 2026. No macro, syntax, notation, axiom, sorry.
-/
import Derived.Test.YtgjffkicbajbfaaDoorRows
import GoSem.ClaimSeven
namespace Go.Proofs.YtgjffkicbajbfaaDoor
namespace Rows

/-- THE TIED CARD OF 'linotypelaw31.ListingReads'. -/
def listingReadsCard : Claim7 := { stood := { row := listingReadsRow, standIns := [], harness := (true, "d3e082e1bd89e079fe0c51eefc80d9d2363a11fd122e4cac9cfd4d3c3553088b"), looks := false }, kinds := [], alts := [], laidByText := true, laidKinds := [.data, .data, .data, .data, .pinned], laidTests := true, laidLooks := .later }
def ListingReadsCardSaid : Prop := Claim7.holds Tryd.pinned (.plain (OpenSpec.ofChange listingReadsSpec)) listingReadsCard

/-- THE TIED CARD OF 'linotypelaw31.ListingBack'. -/
def listingBackCard : Claim7 := { stood := { row := listingBackRow, standIns := [], harness := (true, "d3e082e1bd89e079fe0c51eefc80d9d2363a11fd122e4cac9cfd4d3c3553088b"), looks := false }, kinds := [], alts := [], laidByText := true, laidKinds := [.data, .data, .data, .data, .pinned], laidTests := true, laidLooks := .later }
def ListingBackCardSaid : Prop := Claim7.holds Tryd.pinned (.plain (OpenSpec.ofChange listingBackSpec)) listingBackCard

/-- THE TIED CARD OF 'linotypelaw31.ListingKnown'. -/
def listingKnownCard : Claim7 := { stood := { row := listingKnownRow, standIns := [], harness := (true, "d3e082e1bd89e079fe0c51eefc80d9d2363a11fd122e4cac9cfd4d3c3553088b"), looks := false }, kinds := [], alts := [], laidByText := true, laidKinds := [.data, .data, .data, .data, .pinned], laidTests := true, laidLooks := .later }
def ListingKnownCardSaid : Prop := Claim7.holds Tryd.pinned (.plain (OpenSpec.ofChange listingKnownSpec)) listingKnownCard

/-- THE SECOND FORM's CARD OF 'linotypelaw31.ListingReads'. -/
def listingReadsUptoCard : Claim7 := { stood := { row := listingReadsUptoRow, standIns := [], harness := (true, "d3e082e1bd89e079fe0c51eefc80d9d2363a11fd122e4cac9cfd4d3c3553088b"), looks := false }, kinds := [], alts := [], laidByText := true, laidKinds := [.data, .data, .data, .data, .pinned], laidTests := true, laidLooks := .later }
def ListingReadsUptoCardSaid : Prop := Claim7.holds Tryd.pinned (.plain (OpenSpec.upto listingReadsSpec)) listingReadsUptoCard

/-- THE SECOND FORM's CARD OF 'linotypelaw31.ListingBack'. -/
def listingBackUptoCard : Claim7 := { stood := { row := listingBackUptoRow, standIns := [], harness := (true, "d3e082e1bd89e079fe0c51eefc80d9d2363a11fd122e4cac9cfd4d3c3553088b"), looks := false }, kinds := [], alts := [], laidByText := true, laidKinds := [.data, .data, .data, .data, .pinned], laidTests := true, laidLooks := .later }
def ListingBackUptoCardSaid : Prop := Claim7.holds Tryd.pinned (.plain (OpenSpec.upto listingBackSpec)) listingBackUptoCard

/-- THE SECOND FORM's CARD OF 'linotypelaw31.ListingKnown'. -/
def listingKnownUptoCard : Claim7 := { stood := { row := listingKnownUptoRow, standIns := [], harness := (true, "d3e082e1bd89e079fe0c51eefc80d9d2363a11fd122e4cac9cfd4d3c3553088b"), looks := false }, kinds := [], alts := [], laidByText := true, laidKinds := [.data, .data, .data, .data, .pinned], laidTests := true, laidLooks := .later }
def ListingKnownUptoCardSaid : Prop := Claim7.holds Tryd.pinned (.plain (OpenSpec.upto listingKnownSpec)) listingKnownUptoCard
end Rows
end Go.Proofs.YtgjffkicbajbfaaDoor
