/-
  '==' on terms and triples.
-/
import Derived.Test.YtmcoloapiiakbaaDoorTri
import Derived.Laws.StructEq
import Derived.WalkKit
set_option linter.unusedVariables false
set_option linter.unusedSimpArgs false
namespace Go.Proofs.YtmcoloapiiakbaaDoor.TriEq
open Go.RowKit Go.Proofs.YtmcoloapiiakbaaDoor.B Go.Proofs.YtmcoloapiiakbaaDoor.Rd Go.Proofs.YtmcoloapiiakbaaDoor.TermPure Go.Proofs.YtmcoloapiiakbaaDoor.LinesPure Go.Proofs.YtmcoloapiiakbaaDoor.Ref5

theorem str_beq (a b : List UInt8) : ((mkS a).toList == (mkS b).toList) = decide (a = b) := by
  rw [mkS_toList, mkS_toList]
  by_cases h : a = b <;> simp [h]
theorem eq_term (x y : Term) (d : Nat) (w : World) : (Op.equalIn (d + 2) 24 (termV x) (termV y)).run Tryd.prog w = .ok (decide (x = y)) w := by
  have hS : Tryd.prog.underlying 24 = some (.struct (Tryd.prog.fieldsOf 24)) := by kernel_rfl
  have hp : Tryd.prog.stoodInHeld 24 = false := by kernel_rfl
  have u3 := Tryd.underlying3
  have u9 := Tryd.underlying9
  have a3 := Tryd.isAgg3
  have z3 := Tryd.sizeOf3
  have a9 := Tryd.isAgg9
  have z9 := Tryd.sizeOf9
  obtain ⟨xk, xt, xe⟩ := x
  obtain ⟨yk, yt, ye⟩ := y
  unfold termV
  rw [run_equalIn_struct w (d + 1) 24 _ _ hS hp]
  simp only [Program.fieldsOf, Tryd.underlying24]
  go_simp
  simp only [mkS_toList]
  by_cases h1 : xk = yk <;> by_cases h2 : xt = yt <;> by_cases h3 : xe = ye <;> simp [h1, h2, h3]
theorem eq_term' (x y : Term) (d : Nat) (w : World) : (Op.equalIn (d + 2) 24 (.agg #[.int .i64 x.kind, .string (mkS x.text), .string (mkS x.extra)]) (.agg #[.int .i64 y.kind, .string (mkS y.text), .string (mkS y.extra)])).run Tryd.prog w = .ok (decide (x = y)) w := eq_term x y d w
theorem run_eq_term (x y : Term) (w : World) : (binOp .eql 24 (.agg #[.int .i64 x.kind, .string (mkS x.text), .string (mkS x.extra)]) (.agg #[.int .i64 y.kind, .string (mkS y.text), .string (mkS y.extra)])).run Tryd.prog w = .ok (.bool (decide (x = y))) w := by
  rw [run_eql_struct, show (10000 : Nat) = 9998 + 2 from rfl, eq_term']
  rfl
theorem run_eq_tri (x y : Triple) (w : World) : (binOp .eql 26 (tripleV x) (tripleV y)).run Tryd.prog w = .ok (.bool (decide (x = y))) w := by
  have hS : Tryd.prog.underlying 26 = some (.struct (Tryd.prog.fieldsOf 26)) := by kernel_rfl
  have hp : Tryd.prog.stoodInHeld 26 = false := by kernel_rfl
  have a23 := Tryd.isAgg24
  have z23 := Tryd.sizeOf24
  have e := fun (x y : Term) w => eq_term' x y 9997 w
  unfold tripleV
  rw [run_eql_struct, show (10000 : Nat) = 9999 + 1 from rfl, run_equalIn_agg w 9999 26 _ _ hS hp]
  simp only [Program.fieldsOf, Tryd.underlying26]
  go_simp
  obtain ⟨a, b, c⟩ := x
  obtain ⟨a', b', c'⟩ := y
  by_cases h1 : a = a' <;> by_cases h2 : b = b' <;> by_cases h3 : c = c' <;> simp [h1, h2, h3]
end Go.Proofs.YtmcoloapiiakbaaDoor.TriEq
