/-
  DERIVED. GIVEN WITH THE SEED: THE CARDS: each row of YtgagiafbhpipoaaDoorRows.lean that lists a variable, with what it lists TIED to the program's text (the seventh form; the later family's looks); each row that meets fmt, with fmt's text TOLD by the authors' own Lean function (tested against real Go, not proved from fmt's source: count such statements apart). THE CARD IS WHAT COUNTS. Prove the row's statement (the work); the ties are given (YtgagiafbhpipoaaDoorTie.lean); close each card by the builder's one call (the guide's Derived/Test/ToyasCard.lean, 'card_holds'). Laid BY PROGRAM, IN A SANDBOX (cutbox-door.mjs). By AI agents, Wed Nov 11 2026. No macro, syntax, notation, axiom, sorry.
-/
import Derived.Test.YtgagiafbhpipoaaDoorRows
import GoSem.ClaimSeven
namespace Go.Proofs.YtgagiafbhpipoaaDoor
namespace Rows

/-- THE TIED CARD OF 'strongroomlaw05.PathCovers'. -/
def pathCoversCard : Claim7 := { stood := { row := pathCoversRow, standIns := [], harness := (true, "2b5610d667cf2e2750001d845dc726204da7a799845b2685f7e3ccbce9963bbe"), looks := false }, kinds := [], alts := [], laidByText := true, laidKinds := [.data, .pinned], laidTests := true, laidLooks := .later }
def PathCoversCardSaid : Prop := Claim7.holds Tryd.pinned (.plain (OpenSpec.ofChange pathCoversSpec)) pathCoversCard

/-- THE TIED CARD OF 'strongroomlaw05.PathMoves'. -/
def pathMovesCard : Claim7 := { stood := { row := pathMovesRow, standIns := [], harness := (true, "2b5610d667cf2e2750001d845dc726204da7a799845b2685f7e3ccbce9963bbe"), looks := false }, kinds := [], alts := [], laidByText := true, laidKinds := [.data, .pinned], laidTests := true, laidLooks := .later }
def PathMovesCardSaid : Prop := Claim7.holds Tryd.pinned (.plain (OpenSpec.ofChange pathMovesSpec)) pathMovesCard

/-- THE TIED CARD OF 'strongroomlaw05.PathAbove'. -/
def pathAboveCard : Claim7 := { stood := { row := pathAboveRow, standIns := [], harness := (true, "2b5610d667cf2e2750001d845dc726204da7a799845b2685f7e3ccbce9963bbe"), looks := false }, kinds := [], alts := [], laidByText := true, laidKinds := [.data, .pinned], laidTests := true, laidLooks := .later }
def PathAboveCardSaid : Prop := Claim7.holds Tryd.pinned (.plain (OpenSpec.ofChange pathAboveSpec)) pathAboveCard

/-- THE TIED CARD OF 'strongroomlaw05.PathBack'. -/
def pathBackCard : Claim7 := { stood := { row := pathBackRow, standIns := [], harness := (true, "2b5610d667cf2e2750001d845dc726204da7a799845b2685f7e3ccbce9963bbe"), looks := false }, kinds := [], alts := [], laidByText := true, laidKinds := [.data, .pinned], laidTests := true, laidLooks := .later }
def PathBackCardSaid : Prop := Claim7.holds Tryd.pinned (.plain (OpenSpec.ofChange pathBackSpec)) pathBackCard

/-- THE TIED CARD OF 'strongroomlaw05.PathMeets'. -/
def pathMeetsCard : Claim7 := { stood := { row := pathMeetsRow, standIns := [], harness := (true, "2b5610d667cf2e2750001d845dc726204da7a799845b2685f7e3ccbce9963bbe"), looks := false }, kinds := [], alts := [], laidByText := true, laidKinds := [.data, .pinned], laidTests := true, laidLooks := .later }
def PathMeetsCardSaid : Prop := Claim7.holds Tryd.pinned (.plain (OpenSpec.ofChange pathMeetsSpec)) pathMeetsCard

/-- THE TIED CARD OF 'strongroomlaw05.PathTells'. -/
def pathTellsCard : Claim7 := { stood := { row := pathTellsRow, standIns := [], harness := (true, "2b5610d667cf2e2750001d845dc726204da7a799845b2685f7e3ccbce9963bbe"), looks := false }, kinds := [], alts := [], laidByText := true, laidKinds := [.data, .pinned], laidTests := true, laidLooks := .later }
def PathTellsCardSaid : Prop := Claim7.holds Tryd.pinned (.plain (OpenSpec.ofChange pathTellsSpec)) pathTellsCard

/-- THE TIED CARD OF 'strongroomlaw05.PathCounts'. -/
def pathCountsCard : Claim7 := { stood := { row := pathCountsRow, standIns := [], harness := (true, "2b5610d667cf2e2750001d845dc726204da7a799845b2685f7e3ccbce9963bbe"), looks := false }, kinds := [], alts := [], laidByText := true, laidKinds := [.data, .pinned], laidTests := true, laidLooks := .later }
def PathCountsCardSaid : Prop := Claim7.holds Tryd.pinned (.plain (OpenSpec.ofChange pathCountsSpec)) pathCountsCard

/-- THE TIED CARD OF 'strongroomlaw05.PathJoins'. -/
def pathJoinsCard : Claim7 := { stood := { row := pathJoinsRow, standIns := [], harness := (true, "2b5610d667cf2e2750001d845dc726204da7a799845b2685f7e3ccbce9963bbe"), looks := false }, kinds := [], alts := [], laidByText := true, laidKinds := [.data, .pinned], laidTests := true, laidLooks := .later }
def PathJoinsCardSaid : Prop := Claim7.holds Tryd.pinned (.plain (OpenSpec.ofChange pathJoinsSpec)) pathJoinsCard

/-- THE SECOND FORM's CARD OF 'strongroomlaw05.PathCovers'. -/
def pathCoversUptoCard : Claim7 := { stood := { row := pathCoversUptoRow, standIns := [], harness := (true, "2b5610d667cf2e2750001d845dc726204da7a799845b2685f7e3ccbce9963bbe"), looks := false }, kinds := [], alts := [], laidByText := true, laidKinds := [.data, .pinned], laidTests := true, laidLooks := .later }
def PathCoversUptoCardSaid : Prop := Claim7.holds Tryd.pinned (.plain (OpenSpec.upto pathCoversSpec)) pathCoversUptoCard

/-- THE SECOND FORM's CARD OF 'strongroomlaw05.PathMoves'. -/
def pathMovesUptoCard : Claim7 := { stood := { row := pathMovesUptoRow, standIns := [], harness := (true, "2b5610d667cf2e2750001d845dc726204da7a799845b2685f7e3ccbce9963bbe"), looks := false }, kinds := [], alts := [], laidByText := true, laidKinds := [.data, .pinned], laidTests := true, laidLooks := .later }
def PathMovesUptoCardSaid : Prop := Claim7.holds Tryd.pinned (.plain (OpenSpec.upto pathMovesSpec)) pathMovesUptoCard

/-- THE SECOND FORM's CARD OF 'strongroomlaw05.PathAbove'. -/
def pathAboveUptoCard : Claim7 := { stood := { row := pathAboveUptoRow, standIns := [], harness := (true, "2b5610d667cf2e2750001d845dc726204da7a799845b2685f7e3ccbce9963bbe"), looks := false }, kinds := [], alts := [], laidByText := true, laidKinds := [.data, .pinned], laidTests := true, laidLooks := .later }
def PathAboveUptoCardSaid : Prop := Claim7.holds Tryd.pinned (.plain (OpenSpec.upto pathAboveSpec)) pathAboveUptoCard

/-- THE SECOND FORM's CARD OF 'strongroomlaw05.PathBack'. -/
def pathBackUptoCard : Claim7 := { stood := { row := pathBackUptoRow, standIns := [], harness := (true, "2b5610d667cf2e2750001d845dc726204da7a799845b2685f7e3ccbce9963bbe"), looks := false }, kinds := [], alts := [], laidByText := true, laidKinds := [.data, .pinned], laidTests := true, laidLooks := .later }
def PathBackUptoCardSaid : Prop := Claim7.holds Tryd.pinned (.plain (OpenSpec.upto pathBackSpec)) pathBackUptoCard

/-- THE SECOND FORM's CARD OF 'strongroomlaw05.PathMeets'. -/
def pathMeetsUptoCard : Claim7 := { stood := { row := pathMeetsUptoRow, standIns := [], harness := (true, "2b5610d667cf2e2750001d845dc726204da7a799845b2685f7e3ccbce9963bbe"), looks := false }, kinds := [], alts := [], laidByText := true, laidKinds := [.data, .pinned], laidTests := true, laidLooks := .later }
def PathMeetsUptoCardSaid : Prop := Claim7.holds Tryd.pinned (.plain (OpenSpec.upto pathMeetsSpec)) pathMeetsUptoCard

/-- THE SECOND FORM's CARD OF 'strongroomlaw05.PathTells'. -/
def pathTellsUptoCard : Claim7 := { stood := { row := pathTellsUptoRow, standIns := [], harness := (true, "2b5610d667cf2e2750001d845dc726204da7a799845b2685f7e3ccbce9963bbe"), looks := false }, kinds := [], alts := [], laidByText := true, laidKinds := [.data, .pinned], laidTests := true, laidLooks := .later }
def PathTellsUptoCardSaid : Prop := Claim7.holds Tryd.pinned (.plain (OpenSpec.upto pathTellsSpec)) pathTellsUptoCard

/-- THE SECOND FORM's CARD OF 'strongroomlaw05.PathCounts'. -/
def pathCountsUptoCard : Claim7 := { stood := { row := pathCountsUptoRow, standIns := [], harness := (true, "2b5610d667cf2e2750001d845dc726204da7a799845b2685f7e3ccbce9963bbe"), looks := false }, kinds := [], alts := [], laidByText := true, laidKinds := [.data, .pinned], laidTests := true, laidLooks := .later }
def PathCountsUptoCardSaid : Prop := Claim7.holds Tryd.pinned (.plain (OpenSpec.upto pathCountsSpec)) pathCountsUptoCard

/-- THE SECOND FORM's CARD OF 'strongroomlaw05.PathJoins'. -/
def pathJoinsUptoCard : Claim7 := { stood := { row := pathJoinsUptoRow, standIns := [], harness := (true, "2b5610d667cf2e2750001d845dc726204da7a799845b2685f7e3ccbce9963bbe"), looks := false }, kinds := [], alts := [], laidByText := true, laidKinds := [.data, .pinned], laidTests := true, laidLooks := .later }
def PathJoinsUptoCardSaid : Prop := Claim7.holds Tryd.pinned (.plain (OpenSpec.upto pathJoinsSpec)) pathJoinsUptoCard
end Rows
end Go.Proofs.YtgagiafbhpipoaaDoor
