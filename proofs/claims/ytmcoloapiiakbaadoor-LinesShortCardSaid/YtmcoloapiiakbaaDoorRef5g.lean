/-
  What the reference of lines answers: a line.
-/
import Derived.Test.YtmcoloapiiakbaaDoorTc
import Derived.Deep.CutBlock
set_option linter.unusedVariables false
set_option linter.unusedSimpArgs false
namespace Go.Proofs.YtmcoloapiiakbaaDoor.Ref5
open Go.RowKit Go.Lib Go.Proofs.YtmcoloapiiakbaaDoor.B Go.Proofs.YtmcoloapiiakbaaDoor.Rd Go.Proofs.YtmcoloapiiakbaaDoor.Utf Go.Proofs.YtmcoloapiiakbaaDoor.TermPure Go.Proofs.YtmcoloapiiakbaaDoor.LinesPure Go.Proofs.YtmcoloapiiakbaaDoor.Tx Go.Proofs.YtmcoloapiiakbaaDoor.Env Go.Proofs.YtmcoloapiiakbaaDoor.Tc

/-- What has been read of a term ahead of the check. -/
def RawPost (w : World) (rb g2 g3 : Nat) (s : List UInt8) (wx : World) : Prop :=
  ∃ t : Term, Fits t ∧ TC wx g3 0 t ∧ TC wx g2 0 zeroT ∧
    ((rawTerm true s = none ∧ Step w wx rb [] true) ∨ (∃ q, Step w wx rb q false ∧ (rawTerm true s = some (t, q) ∨ (rawTerm true s = none ∧ is t = false))))
theorem two_zero {w : World} (W : World) (h : W.heap.size = w.heap.size) :
    TC ((W.alloc (.cells #[.int .i64 0, .string (mkS []), .string (mkS [])] 24)).alloc (.cells #[.int .i64 0, .string (mkS []), .string (mkS [])] 24)) w.heap.size 0 zeroT ∧
    TC ((W.alloc (.cells #[.int .i64 0, .string (mkS []), .string (mkS [])] 24)).alloc (.cells #[.int .i64 0, .string (mkS []), .string (mkS [])] 24)) (w.heap.size + 1) 0 zeroT := by
  refine ⟨?_, ?_⟩
  · rw [← h]
    exact (TC.new W zeroT).alloc _
  · rw [← h]
    have := TC.new (W.alloc (.cells #[.int .i64 0, .string (mkS []), .string (mkS [])] 24)) zeroT
    simpa [zeroT] using this
theorem rawTerm_no (l : List UInt8) (h1 : ([60] : List UInt8).isPrefixOf l = false) (h2 : ([95, 58] : List UInt8).isPrefixOf l = false) (h3 : ([34] : List UInt8).isPrefixOf l = false) (ref : Bool) : rawTerm ref l = none := by
  rw [rawTerm, h1, h2, h3]
  rfl
end Go.Proofs.YtmcoloapiiakbaaDoor.Ref5
