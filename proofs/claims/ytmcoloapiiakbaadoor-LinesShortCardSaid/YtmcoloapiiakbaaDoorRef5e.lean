/-
  What the reference of lines answers: a line.
-/
import Derived.Test.YtmcoloapiiakbaaDoorRef5d
set_option linter.unusedVariables false
set_option linter.unusedSimpArgs false
namespace Go.Proofs.YtmcoloapiiakbaaDoor.Ref5
open Go.RowKit Go.Lib Go.Proofs.YtmcoloapiiakbaaDoor.B Go.Proofs.YtmcoloapiiakbaaDoor.Rd Go.Proofs.YtmcoloapiiakbaaDoor.Utf Go.Proofs.YtmcoloapiiakbaaDoor.TermPure Go.Proofs.YtmcoloapiiakbaaDoor.LinesPure Go.Proofs.YtmcoloapiiakbaaDoor.Tx Go.Proofs.YtmcoloapiiakbaaDoor.Env

/-- A term's cells. -/
def termC (t : Term) : List Value := [.int .i64 t.kind, .string (mkS t.text), .string (mkS t.extra)]
/-- A triple by value. -/
def tripleV (t : Triple) : Value := .agg #[.int .i64 t.s.kind, .string (mkS t.s.text), .string (mkS t.s.extra), .int .i64 t.p.kind, .string (mkS t.p.text), .string (mkS t.p.extra), .int .i64 t.o.kind, .string (mkS t.o.text), .string (mkS t.o.extra)]
def FitsT (t : Triple) : Prop := Fits t.s ∧ Fits t.p ∧ Fits t.o
theorem is_kind (t : Term) (h : is t = true) : 1 ≤ t.kind ∧ t.kind ≤ 5 := by
  unfold is at h
  by_cases h1 : t.kind = 1
  · omega
  · by_cases h2 : t.kind = 2
    · omega
    · by_cases h3 : t.kind = 3
      · omega
      · by_cases h4 : t.kind = 4
        · omega
        · by_cases h5 : t.kind = 5
          · omega
          · rw [if_neg h1, if_neg h2, if_neg h3, if_neg h4, if_neg h5] at h
            cases h
theorem isTriple_eq (t : Triple) : isTriple t = (is t.s && (is t.p && (is t.o && (decide (t.s.kind ≤ 2) && (t.p.kind == 1))))) := by
  unfold isTriple
  cases h : is t.s with
  | false => rfl
  | true =>
    have := is_kind _ h
    congr 3
    congr 1
    · rw [Bool.eq_iff_iff]
      simp
      omega
theorem lower_yes (b : UInt8) (h1 : 65 ≤ b.toNat) (h2 : b.toNat ≤ 90) : ((lowerB b).toNat : Int) = (b.toNat : Int) + 32 := by
  have hu : isUpperB b = true := by
    unfold isUpperB
    simp [UInt8.le_iff_toNat_le]
    omega
  rw [lowerB, if_pos hu, UInt8.toNat_add]
  have : (32 : UInt8).toNat = 32 := rfl
  omega
theorem lower_no (b : UInt8) (h : ¬ (65 ≤ b.toNat ∧ b.toNat ≤ 90)) : lowerB b = b := by
  have hu : isUpperB b = false := by
    unfold isUpperB
    simp [UInt8.le_iff_toNat_le]
    omega
  rw [lowerB, hu]
  rfl
end Go.Proofs.YtmcoloapiiakbaaDoor.Ref5
