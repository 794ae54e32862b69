/-
  What the reference of term answers.
-/
import Derived.Test.YtmcoloapiiakbaaDoorLinesPure
import Derived.Test.YtmcoloapiiakbaaDoorBase
import Derived.Test.YtmcoloapiiakbaaDoorProg
import Derived.WalkKit
import Derived.Lib.Hide
import Derived.Deep.LoopGhost
import Derived.Deep.QuietTactic
import Derived.BigQuiet
import Derived.Deep.DeepCutAuto
set_option linter.unusedVariables false
set_option linter.unusedSimpArgs false
namespace Go.Proofs.YtmcoloapiiakbaaDoor.Ref4
open Go.RowKit Go.Lib Go.Proofs.YtmcoloapiiakbaaDoor.B Go.Proofs.YtmcoloapiiakbaaDoor.Utf Go.Proofs.YtmcoloapiiakbaaDoor.TermPure Go.Proofs.YtmcoloapiiakbaaDoor.LinesPure

theorem mkS_get (l : List UInt8) (k : Nat) (h : k < (mkS l).size) (h' : k < l.length) : (mkS l)[k] = l[k] := rfl
theorem iriRune_plain (n : Nat) : iriRune n = true ↔ (33 ≤ n ∧ n ≤ 126 ∧ n ≠ 34 ∧ n ≠ 60 ∧ n ≠ 62 ∧ n ≠ 92 ∧ n ≠ 94 ∧ n ≠ 96 ∧ n ≠ 123 ∧ n ≠ 124 ∧ n ≠ 125) ∨ 160 ≤ n := by
  unfold iriRune odd
  simp
  omega
end Go.Proofs.YtmcoloapiiakbaaDoor.Ref4
