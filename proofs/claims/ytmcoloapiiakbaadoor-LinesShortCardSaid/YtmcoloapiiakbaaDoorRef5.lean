/-
  What the reference of lines answers: its reader.
-/
import Derived.Test.YtmcoloapiiakbaaDoorRef4
import Derived.Test.YtmcoloapiiakbaaDoorRd
set_option linter.unusedVariables false
set_option linter.unusedSimpArgs false
namespace Go.Proofs.YtmcoloapiiakbaaDoor.Ref5
open Go.RowKit Go.Lib Go.Proofs.YtmcoloapiiakbaaDoor.B Go.Proofs.YtmcoloapiiakbaaDoor.Ref4 Go.Proofs.YtmcoloapiiakbaaDoor.Rd Go.Proofs.YtmcoloapiiakbaaDoor.Utf Go.Proofs.YtmcoloapiiakbaaDoor.TermPure Go.Proofs.YtmcoloapiiakbaaDoor.LinesPure

theorem isPrefixOf_take (p s : List UInt8) (h : p.length ≤ s.length) : (s.take p.length == p) = p.isPrefixOf s := by
  rw [Bool.eq_iff_iff, beq_iff_eq, List.isPrefixOf_iff_prefix, List.prefix_iff_eq_take]
  exact ⟨fun e => e.symm, fun e => e.symm⟩
theorem not_prefix (p s : List UInt8) (h : ¬ p.length ≤ s.length) : p.isPrefixOf s = false := by
  rw [Bool.eq_false_iff]
  intro e
  rw [List.isPrefixOf_iff_prefix] at e
  exact h e.length_le
/-- What is left behind blanks. -/
theorem blanks_cons (b : UInt8) (l : List UInt8) (h : LinesPure.blank b = true) : blanks (b :: l) = blanks l := by
  rw [blanks, blanks, List.dropWhile_cons, if_pos h]
theorem blanks_stop (b : UInt8) (l : List UInt8) (h : LinesPure.blank b = false) : blanks (b :: l) = b :: l := by
  rw [blanks, List.dropWhile_cons, h]
  rfl
theorem blank_yes (b : UInt8) (h : (b.toNat : Int) = 32 ∨ (b.toNat : Int) = 9) : LinesPure.blank b = true := by
  rw [LinesPure.blank, Bool.or_eq_true, beq_iff_eq, beq_iff_eq]
  rcases h with h | h
  · exact .inl (UInt8.toNat_inj.1 (by simp; omega))
  · exact .inr (UInt8.toNat_inj.1 (by simp; omega))
theorem blank_no (b : UInt8) (h : (b.toNat : Int) ≠ 32) (h' : (b.toNat : Int) ≠ 9) : LinesPure.blank b = false := by
  rw [LinesPure.blank, Bool.or_eq_false_iff, beq_eq_false_iff_ne, beq_eq_false_iff_ne]
  exact ⟨fun e => h (by rw [e]; rfl), fun e => h' (by rw [e]; rfl)⟩
theorem tw_of (p : UInt8 → Bool) (s : List UInt8) (k : Nat) (hk : k ≤ s.length) (hall : (s.take k).all p = true) (hstop : ∀ h : k < s.length, p s[k] = false) :
    s.takeWhile p = s.take k ∧ s.dropWhile p = s.drop k := by
  induction s generalizing k with
  | nil => simp
  | cons b t ih =>
    cases k with
    | zero =>
      have := hstop (by simp)
      simp at this
      simp [List.takeWhile_cons, List.dropWhile_cons, this]
    | succ k =>
      simp at hall
      have hb := hall.1
      have := ih k (by simpa using hk) (by simpa using hall.2) (fun h => by have := hstop (by simp; omega); simpa using this)
      simp [List.takeWhile_cons, List.dropWhile_cons, hb, this.1, this.2]
theorem run_eq (dash : Bool) (l : List UInt8) : run dash l = (l.takeWhile (inRun dash), l.dropWhile (inRun dash)) := rfl
theorem byte_beq (b : UInt8) (n : Nat) (hn : n < 256) : (b == UInt8.ofNat n) = ((b.toNat : Int) == (n : Int)) := by
  rw [Bool.eq_iff_iff, beq_iff_eq, beq_iff_eq]
  constructor
  · rintro rfl
    simp
    omega
  · intro h
    apply UInt8.toNat_inj.1
    simp
    omega
end Go.Proofs.YtmcoloapiiakbaaDoor.Ref5
