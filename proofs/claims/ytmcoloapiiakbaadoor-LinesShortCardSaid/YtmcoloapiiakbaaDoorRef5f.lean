/-
  What the reference of lines answers: terms in a line.
-/
import Derived.Test.YtmcoloapiiakbaaDoorRef5e
set_option linter.unusedVariables false
set_option linter.unusedSimpArgs false
namespace Go.Proofs.YtmcoloapiiakbaaDoor.Ref5
open Go.RowKit Go.Lib Go.Proofs.YtmcoloapiiakbaaDoor.B Go.Proofs.YtmcoloapiiakbaaDoor.Rd Go.Proofs.YtmcoloapiiakbaaDoor.Utf Go.Proofs.YtmcoloapiiakbaaDoor.TermPure Go.Proofs.YtmcoloapiiakbaaDoor.LinesPure Go.Proofs.YtmcoloapiiakbaaDoor.Tx Go.Proofs.YtmcoloapiiakbaaDoor.Env

/-- What a reader tells of a term, or that it errs. -/
def TermPost (w : World) (rb : Nat) (r : Option (Term × List UInt8)) (e : Ending) (w' : World) : Prop := match r with
  | none => (∃ t : Term, e = .returned (termV t) ∧ Fits t) ∧ Step w w' rb [] true
  | some (t, q) => (e = .returned (termV t) ∧ Fits t) ∧ Step w w' rb q false
theorem up_len (stop : UInt8) (lit nl : Bool) : ∀ (n : Nat) (l : List UInt8), l.length ≤ n → ∀ o r, up stop lit nl l = some (o, r) → o.length + r.length < l.length
  | n, [], h, o, r, hu => by rw [up_nil] at hu; cases hu
  | 0, b :: l, h, o, r, hu => by simp at h
  | n + 1, b :: l, h, o, r, hu => by
    simp at h
    by_cases h1 : b = stop
    · subst h1
      rw [up_stop] at hu
      cases hu
      simp
    · by_cases h2 : b = 92
      · cases he : esc lit l with
        | none => rw [up_esc_none stop lit nl b l h1 h2 he] at hu; cases hu
        | some p =>
          obtain ⟨o1, r1⟩ := p
          rw [up_esc stop lit nl b l o1 r1 h1 h2 he] at hu
          have hl := esc_len2 lit l o1 r1 he
          cases hv : up stop lit nl r1 with
          | none => rw [hv] at hu; cases hu
          | some q =>
            obtain ⟨o2, r2⟩ := q
            rw [hv] at hu
            cases hu
            have := up_len stop lit nl n r1 (by omega) o2 r2 hv
            simp
            omega
      · by_cases h3 : nl = true ∧ (b = 10 ∨ b = 13)
        · rw [up_line stop lit nl b l h1 h2 h3] at hu; cases hu
        · rw [up_other stop lit nl b l h1 h2 h3] at hu
          cases hv : up stop lit nl l with
          | none => rw [hv] at hu; cases hu
          | some q =>
            obtain ⟨o2, r2⟩ := q
            rw [hv] at hu
            cases hu
            have := up_len stop lit nl n l (by omega) o2 r2 hv
            simp
            omega
theorem run_fst_len (d : Bool) (l : List UInt8) : (run d l).1.length ≤ l.length := by
  unfold run
  exact List.Sublist.length_le (List.takeWhile_sublist _)
theorem run_snd_len (d : Bool) (l : List UInt8) : (run d l).2.length ≤ l.length := by
  unfold run
  exact List.Sublist.length_le (List.dropWhile_sublist _)
theorem low_len (l : List UInt8) : (toLowerA l).length = l.length := by simp [toLowerA]
theorem caret3 (r : List UInt8) : ([94, 94, 60] : List UInt8).isPrefixOf r = (([94, 94] : List UInt8).isPrefixOf r && ([60] : List UInt8).isPrefixOf (r.drop 2)) := by
  rcases r with _ | ⟨a, _ | ⟨b, r⟩⟩
  · rfl
  · show (94 == a && false) = ((94 == a && false) && _)
    simp
  · show (94 == a && (94 == b && ([60] : List UInt8).isPrefixOf r)) = ((94 == a && (94 == b && true)) && ([60] : List UInt8).isPrefixOf r)
    rw [Bool.and_true, Bool.and_assoc]
end Go.Proofs.YtmcoloapiiakbaaDoor.Ref5
