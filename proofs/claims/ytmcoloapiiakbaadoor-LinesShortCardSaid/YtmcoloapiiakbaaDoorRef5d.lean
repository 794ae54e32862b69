/-
  What the reference of terms answers: which may be.
-/
import Derived.Test.YtmcoloapiiakbaaDoorRef5c
import Derived.Test.YtmcoloapiiakbaaDoorEnv
set_option linter.unusedVariables false
set_option linter.unusedSimpArgs false
namespace Go.Proofs.YtmcoloapiiakbaaDoor.Ref5
open Go.RowKit Go.Lib Go.Proofs.YtmcoloapiiakbaaDoor.B Go.Proofs.YtmcoloapiiakbaaDoor.Rd Go.Proofs.YtmcoloapiiakbaaDoor.Utf Go.Proofs.YtmcoloapiiakbaaDoor.TermPure Go.Proofs.YtmcoloapiiakbaaDoor.LinesPure Go.Proofs.YtmcoloapiiakbaaDoor.Tx Go.Proofs.YtmcoloapiiakbaaDoor.Env

theorem isIRI_no (s : List UInt8) (h : validD s = false ∨ s = [] ∨ 60 < s.length) : isIRI s = false := by
  unfold isIRI
  rcases h with h | h | h
  · rw [h]; simp
  · subst h; rfl
  · rw [decide_eq_false (by omega : ¬ s.length ≤ 60)]; simp
theorem isIRI_runes (s : List UInt8) (h : validD s = true) (h1 : s ≠ []) (h2 : s.length ≤ 60) : isIRI s = (runes s).all iriRune := by
  unfold isIRI
  rw [h, decide_eq_true h1, decide_eq_true h2]
  simp
theorem decodeL_rune_le (l : List UInt8) : (decodeL l).1 ≤ 1114111 := by
  have := Lib.rune_le (mkS l) 0
  rw [← decodeL_drop (mkS l) 0] at this
  exact this
theorem runesGo_le : ∀ (f : Nat) (l : List UInt8), ∀ c ∈ runesGo f l, c ≤ 1114111
  | 0, l, c, h => by rw [runesGo] at h; cases h
  | f + 1, l, c, h => by
    rw [runesGo] at h
    split at h
    · cases h
    · rcases List.mem_cons.1 h with rfl | h
      · exact decodeL_rune_le l
      · exact runesGo_le f _ c h
/-- A term by value. -/
def termV (t : Term) : Value := .agg #[.int .i64 t.kind, .string (mkS t.text), .string (mkS t.extra)]
/-- What a term's parts are at most. -/
def Fits (t : Term) : Prop := (-9223372036854775808 ≤ t.kind ∧ t.kind ≤ 9223372036854775807) ∧ t.text.length ≤ 70368744177664 ∧ t.extra.length ≤ 70368744177664
end Go.Proofs.YtmcoloapiiakbaaDoor.Ref5
