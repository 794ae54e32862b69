/-
  The law StoreRing's walk, as its row asks it.
-/
import Derived.Test.YtnplommdgfgboaaGreatDoorL3
set_option linter.unusedVariables false
set_option linter.unusedSimpArgs false
namespace Go.Proofs.YtnplommdgfgboaaGreatDoor.SRing
open Go.RowKit Go.Lib Go.Proofs.YtnplommdgfgboaaGreatDoor.B Go.Proofs.YtnplommdgfgboaaGreatDoor.Rd Go.Proofs.YtnplommdgfgboaaGreatDoor.TermPure Go.Proofs.YtnplommdgfgboaaGreatDoor.LinesPure Go.Proofs.YtnplommdgfgboaaGreatDoor.Tri Go.Proofs.YtnplommdgfgboaaGreatDoor.IdsW
theorem walkW (w : World) (he : Env.Env w) (l : List Triple) (v : Value) (m : triK.sl.M w (fun _ => True) l [v]) (p : Pat) (cp : Array Value) (mp : PatK.patK.M w (fun _ => True) p cp.toList) :
    Calls Tryz.prog 4 #[v, .agg cp] w fun e w' => e = .returned (.bool true) ∧ Below w.heap.size w w' := by
  obtain ⟨h1, h2⟩ := mp
  have hc : cp = (patL p).toArray := by rw [← h1]
  rw [hc]
  exact walk w he l v m p
end Go.Proofs.YtnplommdgfgboaaGreatDoor.SRing
