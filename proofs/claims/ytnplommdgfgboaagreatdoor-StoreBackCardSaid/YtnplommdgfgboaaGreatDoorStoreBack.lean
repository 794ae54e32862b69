/-
  Of any triples, numbers and byte the law StoreBack returns true, and what came in reads as it did. No condition.
-/
import Derived.Test.YtnplommdgfgboaaGreatDoorStoreBackR
import Derived.Test.YtnplommdgfgboaaGreatDoorK11
import Derived.Test.YtnplommdgfgboaaGreatDoorRows
import Derived.Test.YtnplommdgfgboaaGreatDoorTie
import Derived.Test.YtnplommdgfgboaaGreatDoorCards
import Derived.WalkKit
import Derived.ProofKit
import Derived.OpenShut
import Derived.ShutString
import Derived.ChangeOld
import Derived.Below
import Derived.SevenTiedAt
import Derived.JoinedCond
set_option linter.unusedVariables false
set_option linter.unusedSimpArgs false
namespace Go.Proofs.YtnplommdgfgboaaGreatDoor
open Go.ChangeShapes Go.WideShapes Go.ChangeAt Go.RowKit Go.Proofs.YtnplommdgfgboaaGreatDoor.B
open Go.ChangeMaps (open_string shut_string)
/-- THE STATEMENT: the card. -/
theorem storeBack_holds : Rows.StoreBackCardSaid :=
  Claim7.holds_tied_plain_at .later [] [.data, .pinned, .pinned] true _ false
    storeBack_row (fun _ h => by cases h) (by kernel_rfl) (fun _ h => by cases h) storeBack_row_tie rfl ⟨rfl, rfl⟩ (by kernel_rfl) rfl
    (fun f fn hf hfn => by
      obtain rfl : f = 11 := Option.some.inj ((show Tryz.prog.funcNamed "trivium/triviumlaw11.StoreBack" = some 11 by kernel_rfl).symm.trans hf) |>.symm
      obtain rfl : fn = Tryz.f11 := (Option.some.inj (Tryz.func11.symm.trans hfn)).symm
      exact ⟨by kernel_rfl, fun j t ht => by
        rw [Tryz.params11] at ht
        have hm : t ∈ (Tryz.f11.params.toList) := by rw [Tryz.params11]; exact List.mem_of_getElem? (by simpa using ht)
        exact beq_iff_eq.1 (List.all_eq_true.1 (show (Tryz.f11.params.toList).all (fun t => Tryz.prog.wantsStandIn t == false) = true by kernel_rfl) t hm)⟩)
    (by kernel_rfl)
#print axioms storeBack_holds
end Go.Proofs.YtnplommdgfgboaaGreatDoor
