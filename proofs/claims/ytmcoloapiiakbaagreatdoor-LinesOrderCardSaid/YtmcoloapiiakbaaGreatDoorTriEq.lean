/-
  '==' on terms and triples.
-/
import Derived.Test.YtmcoloapiiakbaaGreatDoorTri
import Derived.Laws.StructEq
import Derived.WalkKit
set_option linter.unusedVariables false
set_option linter.unusedSimpArgs false
namespace Go.Proofs.YtmcoloapiiakbaaGreatDoor.TriEq
open Go.RowKit Go.Proofs.YtmcoloapiiakbaaGreatDoor.B Go.Proofs.YtmcoloapiiakbaaGreatDoor.Rd Go.Proofs.YtmcoloapiiakbaaGreatDoor.TermPure Go.Proofs.YtmcoloapiiakbaaGreatDoor.LinesPure Go.Proofs.YtmcoloapiiakbaaGreatDoor.Ref5

theorem str_beq (a b : List UInt8) : ((mkS a).toList == (mkS b).toList) = decide (a = b) := by
  rw [mkS_toList, mkS_toList]
  by_cases h : a = b <;> simp [h]
theorem eq_term (x y : Term) (d : Nat) (w : World) : (Op.equalIn (d + 2) 23 (termV x) (termV y)).run Tryz.prog w = .ok (decide (x = y)) w := by
  have hS : Tryz.prog.underlying 23 = some (.struct (Tryz.prog.fieldsOf 23)) := by kernel_rfl
  have hp : Tryz.prog.stoodInHeld 23 = false := by kernel_rfl
  have u3 := Tryz.underlying3
  have u9 := Tryz.underlying9
  have a3 := Tryz.isAgg3
  have z3 := Tryz.sizeOf3
  have a9 := Tryz.isAgg9
  have z9 := Tryz.sizeOf9
  obtain ⟨xk, xt, xe⟩ := x
  obtain ⟨yk, yt, ye⟩ := y
  unfold termV
  rw [run_equalIn_struct w (d + 1) 23 _ _ hS hp]
  simp only [Program.fieldsOf, Tryz.underlying23]
  go_simp
  simp only [mkS_toList]
  by_cases h1 : xk = yk <;> by_cases h2 : xt = yt <;> by_cases h3 : xe = ye <;> simp [h1, h2, h3]
theorem eq_term' (x y : Term) (d : Nat) (w : World) : (Op.equalIn (d + 2) 23 (.agg #[.int .i64 x.kind, .string (mkS x.text), .string (mkS x.extra)]) (.agg #[.int .i64 y.kind, .string (mkS y.text), .string (mkS y.extra)])).run Tryz.prog w = .ok (decide (x = y)) w := eq_term x y d w
theorem run_eq_term (x y : Term) (w : World) : (binOp .eql 23 (.agg #[.int .i64 x.kind, .string (mkS x.text), .string (mkS x.extra)]) (.agg #[.int .i64 y.kind, .string (mkS y.text), .string (mkS y.extra)])).run Tryz.prog w = .ok (.bool (decide (x = y))) w := by
  rw [run_eql_struct, show (10000 : Nat) = 9998 + 2 from rfl, eq_term']
  rfl
theorem run_eq_tri (x y : Triple) (w : World) : (binOp .eql 25 (tripleV x) (tripleV y)).run Tryz.prog w = .ok (.bool (decide (x = y))) w := by
  have hS : Tryz.prog.underlying 25 = some (.struct (Tryz.prog.fieldsOf 25)) := by kernel_rfl
  have hp : Tryz.prog.stoodInHeld 25 = false := by kernel_rfl
  have a23 := Tryz.isAgg23
  have z23 := Tryz.sizeOf23
  have e := fun (x y : Term) w => eq_term' x y 9997 w
  unfold tripleV
  rw [run_eql_struct, show (10000 : Nat) = 9999 + 1 from rfl, run_equalIn_agg w 9999 25 _ _ hS hp]
  simp only [Program.fieldsOf, Tryz.underlying25]
  go_simp
  obtain ⟨a, b, c⟩ := x
  obtain ⟨a', b', c'⟩ := y
  by_cases h1 : a = a' <;> by_cases h2 : b = b' <;> by_cases h3 : c = c' <;> simp [h1, h2, h3]
end Go.Proofs.YtmcoloapiiakbaaGreatDoor.TriEq
