/-
  What the reference of lines answers: up to a sign.
-/
import Derived.Test.YtmcoloapiiakbaaDoorRef5b
set_option linter.unusedVariables false
set_option linter.unusedSimpArgs false
namespace Go.Proofs.YtmcoloapiiakbaaDoor.Ref5
open Go.RowKit Go.Lib Go.Proofs.YtmcoloapiiakbaaDoor.B Go.Proofs.YtmcoloapiiakbaaDoor.Rd Go.Proofs.YtmcoloapiiakbaaDoor.Utf Go.Proofs.YtmcoloapiiakbaaDoor.TermPure Go.Proofs.YtmcoloapiiakbaaDoor.LinesPure Go.Proofs.YtmcoloapiiakbaaDoor.Tx

/-- What the reader tells up to a sign. -/
def UpPost (w : World) (rb : Nat) (bad : Bool) (r : Option (List UInt8 × List UInt8)) (e : Ending) (w' : World) : Prop := match r with
  | none => e = .returned (.string (mkS [])) ∧ Step w w' rb [] true
  | some (o, t) => e = .returned (.string (mkS o)) ∧ Step w w' rb t bad
end Go.Proofs.YtmcoloapiiakbaaDoor.Ref5
