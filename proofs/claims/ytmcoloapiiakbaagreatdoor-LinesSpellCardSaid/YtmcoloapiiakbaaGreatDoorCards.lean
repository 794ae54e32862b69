/-
  DERIVED. GIVEN WITH THE SEED: THE CARDS: each row of YtmcoloapiiakbaaGreatDoorRows.lean that lists a variable, with what it lists TIED to the program's text (the seventh form; the later family's looks); each row that meets fmt, with fmt's text TOLD by the authors' own Lean function (tested against real Go, not proved from fmt's source: count such statements apart). THE CARD IS WHAT COUNTS. Prove the row's statement (the work); the ties are given (YtmcoloapiiakbaaGreatDoorTie.lean); close each card by the builder's one call (the guide's Derived/Test/ToyasCard.lean, 'card_holds'). Laid BY PROGRAM, IN A SANDBOX (cutbox-door.mjs). By AI agents, Wed Nov 11 2026. No macro, syntax, notation, axiom, sorry.
-/
import Derived.Test.YtmcoloapiiakbaaGreatDoorRows
import GoSem.ClaimSeven
namespace Go.Proofs.YtmcoloapiiakbaaGreatDoor
namespace Rows

/-- THE TIED CARD OF 'triviumlaw5.LinesOne'. -/
def linesOneCard : Claim7 := { stood := { row := linesOneRow, standIns := [], harness := (true, "b1fc2d0ce12489b039165736a2a0f8d72b4e5bfc396fdd155a8398f0ee4f3be8"), looks := false }, kinds := [], alts := [], laidByText := true, laidKinds := [.data, .pinned, .pinned], laidTests := true, laidLooks := .later }
def LinesOneCardSaid : Prop := Claim7.holds Tryz.pinned (.plain (OpenSpec.ofChange linesOneSpec)) linesOneCard

/-- THE TIED CARD OF 'triviumlaw5.LinesOrder'. -/
def linesOrderCard : Claim7 := { stood := { row := linesOrderRow, standIns := [], harness := (true, "b1fc2d0ce12489b039165736a2a0f8d72b4e5bfc396fdd155a8398f0ee4f3be8"), looks := false }, kinds := [], alts := [], laidByText := true, laidKinds := [.data, .pinned, .pinned], laidTests := true, laidLooks := .later }
def LinesOrderCardSaid : Prop := Claim7.holds Tryz.pinned (.plain (OpenSpec.ofChange linesOrderSpec)) linesOrderCard

/-- THE TIED CARD OF 'triviumlaw5.LinesSort'. -/
def linesSortCard : Claim7 := { stood := { row := linesSortRow, standIns := [], harness := (true, "b1fc2d0ce12489b039165736a2a0f8d72b4e5bfc396fdd155a8398f0ee4f3be8"), looks := false }, kinds := [], alts := [], laidByText := true, laidKinds := [.data, .pinned, .pinned], laidTests := true, laidLooks := .later }
def LinesSortCardSaid : Prop := Claim7.holds Tryz.pinned (.plain (OpenSpec.ofChange linesSortSpec)) linesSortCard

/-- THE TIED CARD OF 'triviumlaw5.LinesBack'. -/
def linesBackCard : Claim7 := { stood := { row := linesBackRow, standIns := [], harness := (true, "b1fc2d0ce12489b039165736a2a0f8d72b4e5bfc396fdd155a8398f0ee4f3be8"), looks := false }, kinds := [], alts := [], laidByText := true, laidKinds := [.data, .pinned, .pinned], laidTests := true, laidLooks := .later }
def LinesBackCardSaid : Prop := Claim7.holds Tryz.pinned (.plain (OpenSpec.ofChange linesBackSpec)) linesBackCard

/-- THE TIED CARD OF 'triviumlaw5.LinesSpell'. -/
def linesSpellCard : Claim7 := { stood := { row := linesSpellRow, standIns := [], harness := (true, "b1fc2d0ce12489b039165736a2a0f8d72b4e5bfc396fdd155a8398f0ee4f3be8"), looks := false }, kinds := [], alts := [], laidByText := true, laidKinds := [.data, .pinned, .pinned], laidTests := true, laidLooks := .later }
def LinesSpellCardSaid : Prop := Claim7.holds Tryz.pinned (.plain (OpenSpec.ofChange linesSpellSpec)) linesSpellCard

/-- THE TIED CARD OF 'triviumlaw5.LinesWrong'. -/
def linesWrongCard : Claim7 := { stood := { row := linesWrongRow, standIns := [], harness := (true, "b1fc2d0ce12489b039165736a2a0f8d72b4e5bfc396fdd155a8398f0ee4f3be8"), looks := false }, kinds := [], alts := [], laidByText := true, laidKinds := [.data, .pinned, .pinned], laidTests := true, laidLooks := .later }
def LinesWrongCardSaid : Prop := Claim7.holds Tryz.pinned (.plain (OpenSpec.ofChange linesWrongSpec)) linesWrongCard

/-- THE TIED CARD OF 'triviumlaw5.LinesSub'. -/
def linesSubCard : Claim7 := { stood := { row := linesSubRow, standIns := [], harness := (true, "b1fc2d0ce12489b039165736a2a0f8d72b4e5bfc396fdd155a8398f0ee4f3be8"), looks := false }, kinds := [], alts := [], laidByText := true, laidKinds := [.data, .pinned, .pinned], laidTests := true, laidLooks := .later }
def LinesSubCardSaid : Prop := Claim7.holds Tryz.pinned (.plain (OpenSpec.ofChange linesSubSpec)) linesSubCard

/-- THE SECOND FORM's CARD OF 'triviumlaw5.LinesOne'. -/
def linesOneUptoCard : Claim7 := { stood := { row := linesOneUptoRow, standIns := [], harness := (true, "b1fc2d0ce12489b039165736a2a0f8d72b4e5bfc396fdd155a8398f0ee4f3be8"), looks := false }, kinds := [], alts := [], laidByText := true, laidKinds := [.data, .pinned, .pinned], laidTests := true, laidLooks := .later }
def LinesOneUptoCardSaid : Prop := Claim7.holds Tryz.pinned (.plain (OpenSpec.upto linesOneSpec)) linesOneUptoCard

/-- THE SECOND FORM's CARD OF 'triviumlaw5.LinesOrder'. -/
def linesOrderUptoCard : Claim7 := { stood := { row := linesOrderUptoRow, standIns := [], harness := (true, "b1fc2d0ce12489b039165736a2a0f8d72b4e5bfc396fdd155a8398f0ee4f3be8"), looks := false }, kinds := [], alts := [], laidByText := true, laidKinds := [.data, .pinned, .pinned], laidTests := true, laidLooks := .later }
def LinesOrderUptoCardSaid : Prop := Claim7.holds Tryz.pinned (.plain (OpenSpec.upto linesOrderSpec)) linesOrderUptoCard

/-- THE SECOND FORM's CARD OF 'triviumlaw5.LinesSort'. -/
def linesSortUptoCard : Claim7 := { stood := { row := linesSortUptoRow, standIns := [], harness := (true, "b1fc2d0ce12489b039165736a2a0f8d72b4e5bfc396fdd155a8398f0ee4f3be8"), looks := false }, kinds := [], alts := [], laidByText := true, laidKinds := [.data, .pinned, .pinned], laidTests := true, laidLooks := .later }
def LinesSortUptoCardSaid : Prop := Claim7.holds Tryz.pinned (.plain (OpenSpec.upto linesSortSpec)) linesSortUptoCard

/-- THE SECOND FORM's CARD OF 'triviumlaw5.LinesBack'. -/
def linesBackUptoCard : Claim7 := { stood := { row := linesBackUptoRow, standIns := [], harness := (true, "b1fc2d0ce12489b039165736a2a0f8d72b4e5bfc396fdd155a8398f0ee4f3be8"), looks := false }, kinds := [], alts := [], laidByText := true, laidKinds := [.data, .pinned, .pinned], laidTests := true, laidLooks := .later }
def LinesBackUptoCardSaid : Prop := Claim7.holds Tryz.pinned (.plain (OpenSpec.upto linesBackSpec)) linesBackUptoCard

/-- THE SECOND FORM's CARD OF 'triviumlaw5.LinesSpell'. -/
def linesSpellUptoCard : Claim7 := { stood := { row := linesSpellUptoRow, standIns := [], harness := (true, "b1fc2d0ce12489b039165736a2a0f8d72b4e5bfc396fdd155a8398f0ee4f3be8"), looks := false }, kinds := [], alts := [], laidByText := true, laidKinds := [.data, .pinned, .pinned], laidTests := true, laidLooks := .later }
def LinesSpellUptoCardSaid : Prop := Claim7.holds Tryz.pinned (.plain (OpenSpec.upto linesSpellSpec)) linesSpellUptoCard

/-- THE SECOND FORM's CARD OF 'triviumlaw5.LinesWrong'. -/
def linesWrongUptoCard : Claim7 := { stood := { row := linesWrongUptoRow, standIns := [], harness := (true, "b1fc2d0ce12489b039165736a2a0f8d72b4e5bfc396fdd155a8398f0ee4f3be8"), looks := false }, kinds := [], alts := [], laidByText := true, laidKinds := [.data, .pinned, .pinned], laidTests := true, laidLooks := .later }
def LinesWrongUptoCardSaid : Prop := Claim7.holds Tryz.pinned (.plain (OpenSpec.upto linesWrongSpec)) linesWrongUptoCard

/-- THE SECOND FORM's CARD OF 'triviumlaw5.LinesSub'. -/
def linesSubUptoCard : Claim7 := { stood := { row := linesSubUptoRow, standIns := [], harness := (true, "b1fc2d0ce12489b039165736a2a0f8d72b4e5bfc396fdd155a8398f0ee4f3be8"), looks := false }, kinds := [], alts := [], laidByText := true, laidKinds := [.data, .pinned, .pinned], laidTests := true, laidLooks := .later }
def LinesSubUptoCardSaid : Prop := Claim7.holds Tryz.pinned (.plain (OpenSpec.upto linesSubSpec)) linesSubUptoCard
end Rows
end Go.Proofs.YtmcoloapiiakbaaGreatDoor
