/-
  DERIVED. GIVEN WITH THE SEED: THE CARDS: each row of YtnplommdgfgboaaGreatDoorRows.lean that lists a variable, with what it lists TIED to the program's text (the seventh form; the later family's looks); each row that meets fmt, with fmt's text TOLD by the authors' own Lean function (tested against real Go, not proved from fmt's source: count such statements apart). THE CARD IS WHAT COUNTS. Prove the row's statement (the work); the ties are given (YtnplommdgfgboaaGreatDoorTie.lean); close each card by the builder's one call (the guide's Derived/Test/ToyasCard.lean, 'card_holds'). Laid BY PROGRAM, IN A SANDBOX (cutbox-door.mjs). By AI agents, Wed Nov 11 2026. No macro, syntax, notation, axiom, sorry.
-/
import Derived.Test.YtnplommdgfgboaaGreatDoorRows
import GoSem.ClaimSeven
namespace Go.Proofs.YtnplommdgfgboaaGreatDoor
namespace Rows

/-- THE TIED CARD OF 'triviumlaw11.StoreTerms'. -/
def storeTermsCard : Claim7 := { stood := { row := storeTermsRow, standIns := [], harness := (true, "93503a2aad82e945428b600b2842ea96e163026174780b70da27c8fde01fbb70"), looks := false }, kinds := [], alts := [], laidByText := true, laidKinds := [.data, .pinned, .pinned], laidTests := true, laidLooks := .later }
def StoreTermsCardSaid : Prop := Claim7.holds Tryz.pinned (.plain (OpenSpec.ofChange storeTermsSpec)) storeTermsCard

/-- THE TIED CARD OF 'triviumlaw11.StoreRing'. -/
def storeRingCard : Claim7 := { stood := { row := storeRingRow, standIns := [], harness := (true, "93503a2aad82e945428b600b2842ea96e163026174780b70da27c8fde01fbb70"), looks := false }, kinds := [], alts := [], laidByText := true, laidKinds := [.data, .pinned, .pinned], laidTests := true, laidLooks := .later }
def StoreRingCardSaid : Prop := Claim7.holds Tryz.pinned (.plain (OpenSpec.ofChange storeRingSpec)) storeRingCard

/-- THE TIED CARD OF 'triviumlaw11.StoreOrder'. -/
def storeOrderCard : Claim7 := { stood := { row := storeOrderRow, standIns := [], harness := (true, "93503a2aad82e945428b600b2842ea96e163026174780b70da27c8fde01fbb70"), looks := false }, kinds := [], alts := [], laidByText := true, laidKinds := [.data, .pinned, .pinned], laidTests := true, laidLooks := .later }
def StoreOrderCardSaid : Prop := Claim7.holds Tryz.pinned (.plain (OpenSpec.ofChange storeOrderSpec)) storeOrderCard

/-- THE TIED CARD OF 'triviumlaw11.StoreUnlike'. -/
def storeUnlikeCard : Claim7 := { stood := { row := storeUnlikeRow, standIns := [], harness := (true, "93503a2aad82e945428b600b2842ea96e163026174780b70da27c8fde01fbb70"), looks := false }, kinds := [], alts := [], laidByText := true, laidKinds := [.data, .pinned, .pinned], laidTests := true, laidLooks := .later }
def StoreUnlikeCardSaid : Prop := Claim7.holds Tryz.pinned (.plain (OpenSpec.ofChange storeUnlikeSpec)) storeUnlikeCard

/-- THE TIED CARD OF 'triviumlaw11.StoreLoads'. -/
def storeLoadsCard : Claim7 := { stood := { row := storeLoadsRow, standIns := [], harness := (true, "93503a2aad82e945428b600b2842ea96e163026174780b70da27c8fde01fbb70"), looks := false }, kinds := [], alts := [], laidByText := true, laidKinds := [.data, .pinned, .pinned], laidTests := true, laidLooks := .later }
def StoreLoadsCardSaid : Prop := Claim7.holds Tryz.pinned (.plain (OpenSpec.ofChange storeLoadsSpec)) storeLoadsCard

/-- THE TIED CARD OF 'triviumlaw11.StoreOfNothing'. -/
def storeOfNothingCard : Claim7 := { stood := { row := storeOfNothingRow, standIns := [], harness := (true, "93503a2aad82e945428b600b2842ea96e163026174780b70da27c8fde01fbb70"), looks := false }, kinds := [], alts := [], laidByText := true, laidKinds := [.data, .pinned, .pinned], laidTests := true, laidLooks := .later }
def StoreOfNothingCardSaid : Prop := Claim7.holds Tryz.pinned (.plain (OpenSpec.ofChange storeOfNothingSpec)) storeOfNothingCard

/-- THE TIED CARD OF 'triviumlaw11.StoreOwn'. -/
def storeOwnCard : Claim7 := { stood := { row := storeOwnRow, standIns := [], harness := (true, "93503a2aad82e945428b600b2842ea96e163026174780b70da27c8fde01fbb70"), looks := false }, kinds := [], alts := [], laidByText := true, laidKinds := [.data, .pinned, .pinned], laidTests := true, laidLooks := .later }
def StoreOwnCardSaid : Prop := Claim7.holds Tryz.pinned (.plain (OpenSpec.ofChange storeOwnSpec)) storeOwnCard

/-- THE TIED CARD OF 'triviumlaw11.StoreDecodes'. -/
def storeDecodesCard : Claim7 := { stood := { row := storeDecodesRow, standIns := [], harness := (true, "93503a2aad82e945428b600b2842ea96e163026174780b70da27c8fde01fbb70"), looks := false }, kinds := [], alts := [], laidByText := true, laidKinds := [.data, .pinned, .pinned], laidTests := true, laidLooks := .later }
def StoreDecodesCardSaid : Prop := Claim7.holds Tryz.pinned (.plain (OpenSpec.ofChange storeDecodesSpec)) storeDecodesCard

/-- THE TIED CARD OF 'triviumlaw11.StoreBack'. -/
def storeBackCard : Claim7 := { stood := { row := storeBackRow, standIns := [], harness := (true, "93503a2aad82e945428b600b2842ea96e163026174780b70da27c8fde01fbb70"), looks := false }, kinds := [], alts := [], laidByText := true, laidKinds := [.data, .pinned, .pinned], laidTests := true, laidLooks := .later }
def StoreBackCardSaid : Prop := Claim7.holds Tryz.pinned (.plain (OpenSpec.ofChange storeBackSpec)) storeBackCard

/-- THE TIED CARD OF 'triviumlaw11.StoreMade'. -/
def storeMadeCard : Claim7 := { stood := { row := storeMadeRow, standIns := [], harness := (true, "93503a2aad82e945428b600b2842ea96e163026174780b70da27c8fde01fbb70"), looks := false }, kinds := [], alts := [], laidByText := true, laidKinds := [.data, .pinned, .pinned], laidTests := true, laidLooks := .later }
def StoreMadeCardSaid : Prop := Claim7.holds Tryz.pinned (.plain (OpenSpec.ofChange storeMadeSpec)) storeMadeCard

/-- THE SECOND FORM's CARD OF 'triviumlaw11.StoreTerms'. -/
def storeTermsUptoCard : Claim7 := { stood := { row := storeTermsUptoRow, standIns := [], harness := (true, "93503a2aad82e945428b600b2842ea96e163026174780b70da27c8fde01fbb70"), looks := false }, kinds := [], alts := [], laidByText := true, laidKinds := [.data, .pinned, .pinned], laidTests := true, laidLooks := .later }
def StoreTermsUptoCardSaid : Prop := Claim7.holds Tryz.pinned (.plain (OpenSpec.upto storeTermsSpec)) storeTermsUptoCard

/-- THE SECOND FORM's CARD OF 'triviumlaw11.StoreRing'. -/
def storeRingUptoCard : Claim7 := { stood := { row := storeRingUptoRow, standIns := [], harness := (true, "93503a2aad82e945428b600b2842ea96e163026174780b70da27c8fde01fbb70"), looks := false }, kinds := [], alts := [], laidByText := true, laidKinds := [.data, .pinned, .pinned], laidTests := true, laidLooks := .later }
def StoreRingUptoCardSaid : Prop := Claim7.holds Tryz.pinned (.plain (OpenSpec.upto storeRingSpec)) storeRingUptoCard

/-- THE SECOND FORM's CARD OF 'triviumlaw11.StoreOrder'. -/
def storeOrderUptoCard : Claim7 := { stood := { row := storeOrderUptoRow, standIns := [], harness := (true, "93503a2aad82e945428b600b2842ea96e163026174780b70da27c8fde01fbb70"), looks := false }, kinds := [], alts := [], laidByText := true, laidKinds := [.data, .pinned, .pinned], laidTests := true, laidLooks := .later }
def StoreOrderUptoCardSaid : Prop := Claim7.holds Tryz.pinned (.plain (OpenSpec.upto storeOrderSpec)) storeOrderUptoCard

/-- THE SECOND FORM's CARD OF 'triviumlaw11.StoreUnlike'. -/
def storeUnlikeUptoCard : Claim7 := { stood := { row := storeUnlikeUptoRow, standIns := [], harness := (true, "93503a2aad82e945428b600b2842ea96e163026174780b70da27c8fde01fbb70"), looks := false }, kinds := [], alts := [], laidByText := true, laidKinds := [.data, .pinned, .pinned], laidTests := true, laidLooks := .later }
def StoreUnlikeUptoCardSaid : Prop := Claim7.holds Tryz.pinned (.plain (OpenSpec.upto storeUnlikeSpec)) storeUnlikeUptoCard

/-- THE SECOND FORM's CARD OF 'triviumlaw11.StoreLoads'. -/
def storeLoadsUptoCard : Claim7 := { stood := { row := storeLoadsUptoRow, standIns := [], harness := (true, "93503a2aad82e945428b600b2842ea96e163026174780b70da27c8fde01fbb70"), looks := false }, kinds := [], alts := [], laidByText := true, laidKinds := [.data, .pinned, .pinned], laidTests := true, laidLooks := .later }
def StoreLoadsUptoCardSaid : Prop := Claim7.holds Tryz.pinned (.plain (OpenSpec.upto storeLoadsSpec)) storeLoadsUptoCard

/-- THE SECOND FORM's CARD OF 'triviumlaw11.StoreOfNothing'. -/
def storeOfNothingUptoCard : Claim7 := { stood := { row := storeOfNothingUptoRow, standIns := [], harness := (true, "93503a2aad82e945428b600b2842ea96e163026174780b70da27c8fde01fbb70"), looks := false }, kinds := [], alts := [], laidByText := true, laidKinds := [.data, .pinned, .pinned], laidTests := true, laidLooks := .later }
def StoreOfNothingUptoCardSaid : Prop := Claim7.holds Tryz.pinned (.plain (OpenSpec.upto storeOfNothingSpec)) storeOfNothingUptoCard

/-- THE SECOND FORM's CARD OF 'triviumlaw11.StoreOwn'. -/
def storeOwnUptoCard : Claim7 := { stood := { row := storeOwnUptoRow, standIns := [], harness := (true, "93503a2aad82e945428b600b2842ea96e163026174780b70da27c8fde01fbb70"), looks := false }, kinds := [], alts := [], laidByText := true, laidKinds := [.data, .pinned, .pinned], laidTests := true, laidLooks := .later }
def StoreOwnUptoCardSaid : Prop := Claim7.holds Tryz.pinned (.plain (OpenSpec.upto storeOwnSpec)) storeOwnUptoCard

/-- THE SECOND FORM's CARD OF 'triviumlaw11.StoreDecodes'. -/
def storeDecodesUptoCard : Claim7 := { stood := { row := storeDecodesUptoRow, standIns := [], harness := (true, "93503a2aad82e945428b600b2842ea96e163026174780b70da27c8fde01fbb70"), looks := false }, kinds := [], alts := [], laidByText := true, laidKinds := [.data, .pinned, .pinned], laidTests := true, laidLooks := .later }
def StoreDecodesUptoCardSaid : Prop := Claim7.holds Tryz.pinned (.plain (OpenSpec.upto storeDecodesSpec)) storeDecodesUptoCard

/-- THE SECOND FORM's CARD OF 'triviumlaw11.StoreBack'. -/
def storeBackUptoCard : Claim7 := { stood := { row := storeBackUptoRow, standIns := [], harness := (true, "93503a2aad82e945428b600b2842ea96e163026174780b70da27c8fde01fbb70"), looks := false }, kinds := [], alts := [], laidByText := true, laidKinds := [.data, .pinned, .pinned], laidTests := true, laidLooks := .later }
def StoreBackUptoCardSaid : Prop := Claim7.holds Tryz.pinned (.plain (OpenSpec.upto storeBackSpec)) storeBackUptoCard

/-- THE SECOND FORM's CARD OF 'triviumlaw11.StoreMade'. -/
def storeMadeUptoCard : Claim7 := { stood := { row := storeMadeUptoRow, standIns := [], harness := (true, "93503a2aad82e945428b600b2842ea96e163026174780b70da27c8fde01fbb70"), looks := false }, kinds := [], alts := [], laidByText := true, laidKinds := [.data, .pinned, .pinned], laidTests := true, laidLooks := .later }
def StoreMadeUptoCardSaid : Prop := Claim7.holds Tryz.pinned (.plain (OpenSpec.upto storeMadeSpec)) storeMadeUptoCard
end Rows
end Go.Proofs.YtnplommdgfgboaaGreatDoor
