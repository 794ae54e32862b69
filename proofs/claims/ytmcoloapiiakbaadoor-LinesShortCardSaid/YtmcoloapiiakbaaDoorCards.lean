/-
  DERIVED. GIVEN WITH THE SEED: THE CARDS: each row of YtmcoloapiiakbaaDoorRows.lean that lists a variable, with what it lists TIED to the program's text (the seventh form; the later family's looks); each row that meets fmt, with fmt's text TOLD by the authors' own Lean function (tested against real Go, not proved from fmt's source: count such statements apart). THE CARD IS WHAT COUNTS. Prove the row's statement (the work); the ties are given (YtmcoloapiiakbaaDoorTie.lean); close each card by the builder's one call (the guide's Derived/Test/ToyasCard.lean, 'card_holds'). Laid BY PROGRAM, IN A SANDBOX (cutbox-door.mjs). By AI agents, Wed Nov 11 2026. No macro, syntax, notation, axiom, sorry.
-/
import Derived.Test.YtmcoloapiiakbaaDoorRows
import GoSem.ClaimSeven
namespace Go.Proofs.YtmcoloapiiakbaaDoor
namespace Rows

/-- THE TIED CARD OF 'triviumlaw5.LinesShort'. -/
def linesShortCard : Claim7 := { stood := { row := linesShortRow, standIns := [], harness := (true, "9121820f66d3c502beb3e7c1b171b934b07f369b9d31476397273b85a55921c5"), looks := false }, kinds := [], alts := [], laidByText := true, laidKinds := [.data, .pinned, .pinned], laidTests := true, laidLooks := .later }
def LinesShortCardSaid : Prop := Claim7.holds Tryd.pinned (.plain (OpenSpec.ofChange linesShortSpec)) linesShortCard

/-- THE SECOND FORM's CARD OF 'triviumlaw5.LinesShort'. -/
def linesShortUptoCard : Claim7 := { stood := { row := linesShortUptoRow, standIns := [], harness := (true, "9121820f66d3c502beb3e7c1b171b934b07f369b9d31476397273b85a55921c5"), looks := false }, kinds := [], alts := [], laidByText := true, laidKinds := [.data, .pinned, .pinned], laidTests := true, laidLooks := .later }
def LinesShortUptoCardSaid : Prop := Claim7.holds Tryd.pinned (.plain (OpenSpec.upto linesShortSpec)) linesShortUptoCard
end Rows
end Go.Proofs.YtmcoloapiiakbaaDoor
