/-
  DERIVED. GIVEN WITH THE SEED: THE CARDS: each row of YtmagidkgajmhoaaDoorRows.lean that lists a variable, with what it lists TIED to the program's text (the seventh form; the later family's looks); each row that meets fmt, with fmt's text TOLD by the authors' own Lean function (tested against real Go, not proved from fmt's source: count such statements apart). THE CARD IS WHAT COUNTS. Prove the row's statement (the work); the ties are given (YtmagidkgajmhoaaDoorTie.lean); close each card by the builder's one call (the guide's Derived/Test/ToyasCard.lean, 'card_holds'). Laid BY PROGRAM, IN A SANDBOX (cutbox-door.mjs). By AI agents, Wed Nov 11 2026. No macro, syntax, notation, axiom, sorry.
-/
import Derived.Test.YtmagidkgajmhoaaDoorRows
import GoSem.ClaimSeven
namespace Go.Proofs.YtmagidkgajmhoaaDoor
namespace Rows

/-- THE TIED CARD OF 'strongroomlaw21.GlobLiteral'. -/
def globLiteralCard : Claim7 := { stood := { row := globLiteralRow, standIns := [], harness := (true, "e3ea4a25f824e4dc5fbbe404a7a6bf00a011bf215cf0a9ca4d8524679ea76837"), looks := false }, kinds := [], alts := [], laidByText := true, laidKinds := [.data, .pinned], laidTests := true, laidLooks := .later }
def GlobLiteralCardSaid : Prop := Claim7.holds Tryd.pinned (.plain (OpenSpec.ofChange globLiteralSpec)) globLiteralCard

/-- THE TIED CARD OF 'strongroomlaw21.GlobParts'. -/
def globPartsCard : Claim7 := { stood := { row := globPartsRow, standIns := [], harness := (true, "e3ea4a25f824e4dc5fbbe404a7a6bf00a011bf215cf0a9ca4d8524679ea76837"), looks := false }, kinds := [], alts := [], laidByText := true, laidKinds := [.data, .pinned], laidTests := true, laidLooks := .later }
def GlobPartsCardSaid : Prop := Claim7.holds Tryd.pinned (.plain (OpenSpec.ofChange globPartsSpec)) globPartsCard

/-- THE TIED CARD OF 'strongroomlaw21.GlobLast'. -/
def globLastCard : Claim7 := { stood := { row := globLastRow, standIns := [], harness := (true, "e3ea4a25f824e4dc5fbbe404a7a6bf00a011bf215cf0a9ca4d8524679ea76837"), looks := false }, kinds := [], alts := [], laidByText := true, laidKinds := [.data, .pinned], laidTests := true, laidLooks := .later }
def GlobLastCardSaid : Prop := Claim7.holds Tryd.pinned (.plain (OpenSpec.ofChange globLastSpec)) globLastCard

/-- THE TIED CARD OF 'strongroomlaw21.GlobAll'. -/
def globAllCard : Claim7 := { stood := { row := globAllRow, standIns := [], harness := (true, "e3ea4a25f824e4dc5fbbe404a7a6bf00a011bf215cf0a9ca4d8524679ea76837"), looks := false }, kinds := [], alts := [], laidByText := true, laidKinds := [.data, .pinned], laidTests := true, laidLooks := .later }
def GlobAllCardSaid : Prop := Claim7.holds Tryd.pinned (.plain (OpenSpec.ofChange globAllSpec)) globAllCard

/-- THE SECOND FORM's CARD OF 'strongroomlaw21.GlobLiteral'. -/
def globLiteralUptoCard : Claim7 := { stood := { row := globLiteralUptoRow, standIns := [], harness := (true, "e3ea4a25f824e4dc5fbbe404a7a6bf00a011bf215cf0a9ca4d8524679ea76837"), looks := false }, kinds := [], alts := [], laidByText := true, laidKinds := [.data, .pinned], laidTests := true, laidLooks := .later }
def GlobLiteralUptoCardSaid : Prop := Claim7.holds Tryd.pinned (.plain (OpenSpec.upto globLiteralSpec)) globLiteralUptoCard

/-- THE SECOND FORM's CARD OF 'strongroomlaw21.GlobParts'. -/
def globPartsUptoCard : Claim7 := { stood := { row := globPartsUptoRow, standIns := [], harness := (true, "e3ea4a25f824e4dc5fbbe404a7a6bf00a011bf215cf0a9ca4d8524679ea76837"), looks := false }, kinds := [], alts := [], laidByText := true, laidKinds := [.data, .pinned], laidTests := true, laidLooks := .later }
def GlobPartsUptoCardSaid : Prop := Claim7.holds Tryd.pinned (.plain (OpenSpec.upto globPartsSpec)) globPartsUptoCard

/-- THE SECOND FORM's CARD OF 'strongroomlaw21.GlobLast'. -/
def globLastUptoCard : Claim7 := { stood := { row := globLastUptoRow, standIns := [], harness := (true, "e3ea4a25f824e4dc5fbbe404a7a6bf00a011bf215cf0a9ca4d8524679ea76837"), looks := false }, kinds := [], alts := [], laidByText := true, laidKinds := [.data, .pinned], laidTests := true, laidLooks := .later }
def GlobLastUptoCardSaid : Prop := Claim7.holds Tryd.pinned (.plain (OpenSpec.upto globLastSpec)) globLastUptoCard

/-- THE SECOND FORM's CARD OF 'strongroomlaw21.GlobAll'. -/
def globAllUptoCard : Claim7 := { stood := { row := globAllUptoRow, standIns := [], harness := (true, "e3ea4a25f824e4dc5fbbe404a7a6bf00a011bf215cf0a9ca4d8524679ea76837"), looks := false }, kinds := [], alts := [], laidByText := true, laidKinds := [.data, .pinned], laidTests := true, laidLooks := .later }
def GlobAllUptoCardSaid : Prop := Claim7.holds Tryd.pinned (.plain (OpenSpec.upto globAllSpec)) globAllUptoCard
end Rows
end Go.Proofs.YtmagidkgajmhoaaDoor
