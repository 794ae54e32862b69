/-
  Triples in memory: rows of nine cells.
-/
import Derived.Test.YtmcoloapiiakbaaGreatDoorFrame
import Derived.Test.YtmcoloapiiakbaaGreatDoorRef5h
import Derived.Test.YtmcoloapiiakbaaGreatDoorTc
import Derived.Deep.Strs
import Derived.OpenShut
import Derived.ChangeSame
set_option linter.unusedVariables false
set_option linter.unusedSimpArgs false
namespace Go.Proofs.YtmcoloapiiakbaaGreatDoor.Tri
open Go.RowKit Go.ChangeShapes Go.WideShapes Go.Deep Go.Proofs.YtmcoloapiiakbaaGreatDoor.B Go.Proofs.YtmcoloapiiakbaaGreatDoor.TermPure Go.Proofs.YtmcoloapiiakbaaGreatDoor.LinesPure Go.Proofs.YtmcoloapiiakbaaGreatDoor.Ref5

def termL (t : Term) : List Value := [.int .i64 t.kind, .string (mkS t.text), .string (mkS t.extra)]
def triL (t : Triple) : List Value := [.int .i64 t.s.kind, .string (mkS t.s.text), .string (mkS t.s.extra), .int .i64 t.p.kind, .string (mkS t.p.text), .string (mkS t.p.extra), .int .i64 t.o.kind, .string (mkS t.o.text), .string (mkS t.o.extra)]
theorem tripleV_eq (t : Triple) : tripleV t = .agg (triL t).toArray := rfl
theorem termV_eq (t : Term) : termV t = .agg (termL t).toArray := rfl
theorem triL_eq (t : Triple) : triL t = termL t.s ++ (termL t.p ++ termL t.o) := rfl
/-- What may come in. -/
def FitsW (t : Term) : Prop := (-9223372036854775808 ≤ t.kind ∧ t.kind ≤ 9223372036854775807) ∧ t.text.length ≤ 140737488355328 ∧ t.extra.length ≤ 140737488355328
def FitsW3 (t : Triple) : Prop := FitsW t.s ∧ FitsW t.p ∧ FitsW t.o
def termK : Kd Term := held 3 (by decide) termL FitsW (fun _ => rfl) (fun t u hu => by
  simp [termL] at hu
  rcases hu with rfl | rfl | rfl <;> rfl)
def triK : Kd Triple := held 9 (by decide) triL FitsW3 (fun _ => rfl) (fun t u hu => by
  simp [triL] at hu
  rcases hu with rfl | rfl | rfl | rfl | rfl | rfl | rfl | rfl | rfl <;> rfl)
section
variable {P : Program} {t : TypeId}
theorem str_of {H : Type} {enc : TypeId × Value → H} {w : World} {fuel : Nat} {cs : List Value} {x : DataW H × List MemPlace} (ht : P.underlying t = some .string) (h : DataW.trod enc P w 0 (fun _ => true) true fuel t cs = some x)
    (hw : ∀ n ∈ DataW.weights P t x.1, n ≤ reachBytes) : ∃ l : List UInt8, cs = [.string (mkS l)] ∧ l.length ≤ 140737488355328 := by
  obtain ⟨s, rfl, rfl, _⟩ := DataW.trod_string ht h
  refine ⟨s.data.toList, by rw [← Rd.eq_mkS], ?_⟩
  have := hw s.data.toList.length (by simp [DataW.weights])
  simp only [reachBytes] at this
  omega
theorem opens_term {f0 f1 f2 : Field} (ht : P.underlying t = some (.struct #[f0, f1, f2])) (i0 : P.underlying f0.type = some (.int .i64)) (i1 : P.underlying f1.type = some .string) (i2 : P.underlying f2.type = some .string)
    (o0 : f0.offset = 0) (c0 : P.cellsOf f0.type = 1) (o1 : f1.offset = 1) (c1 : P.cellsOf f1.type = 1) (o2 : f2.offset = 2) (c2 : P.cellsOf f2.type = 1) (ct : P.cellsOf t = 3) : Opens P termK t := fun enc w fuel cs x h hw => by
  obtain ⟨y0, y1, y2, n, rfl, hl, k0, k1, k2⟩ := trod_struct3 ht h
  simp only [DataW.weights, ht] at hw
  rw [show (#[f0, f1, f2] : Array Field).toList.map (·.type) = [f0.type, f1.type, f2.type] from rfl] at hw
  simp only [DataW.weightsEach, List.append_nil] at hw
  rw [o0, c0, List.drop_zero] at k0
  rw [o1, c1] at k1
  rw [o2, c2] at k2
  obtain ⟨m, hm, _, hmw⟩ := DataW.trod_int i0 k0
  obtain ⟨x1, hx1, hl1⟩ := str_of i1 k1 (fun m hm => hw m (List.mem_append_right _ (List.mem_append_left _ hm)))
  obtain ⟨x2, hx2, hl2⟩ := str_of i2 k2 (fun m hm => hw m (List.mem_append_right _ (List.mem_append_right _ hm)))
  rw [ct] at hl
  match cs, hl with
  | [a, b, c], _ =>
    simp at hm hx1 hx2
    subst hm hx1 hx2
    exact ⟨⟨m, x1, x2⟩, rfl, Opens.i64_of hmw, hl1, hl2⟩
theorem opens_tri {f0 f1 f2 : Field} (ht : P.underlying t = some (.struct #[f0, f1, f2])) (h0 : Opens P termK f0.type) (h1 : Opens P termK f1.type) (h2 : Opens P termK f2.type)
    (o0 : f0.offset = 0) (c0 : P.cellsOf f0.type = 3) (o1 : f1.offset = 3) (c1 : P.cellsOf f1.type = 3) (o2 : f2.offset = 6) (c2 : P.cellsOf f2.type = 3) (ct : P.cellsOf t = 9) : Opens P triK t := fun enc w fuel cs x h hw => by
  obtain ⟨y0, y1, y2, n, rfl, hl, k0, k1, k2⟩ := trod_struct3 ht h
  simp only [DataW.weights, ht] at hw
  rw [show (#[f0, f1, f2] : Array Field).toList.map (·.type) = [f0.type, f1.type, f2.type] from rfl] at hw
  simp only [DataW.weightsEach, List.append_nil] at hw
  rw [o0, c0, List.drop_zero] at k0
  rw [o1, c1] at k1
  rw [o2, c2] at k2
  obtain ⟨a, ha, fa⟩ := h0 enc w n _ _ k0 (fun m hm => hw m (List.mem_append_left _ hm))
  obtain ⟨b, hb, fb⟩ := h1 enc w n _ _ k1 (fun m hm => hw m (List.mem_append_right _ (List.mem_append_left _ hm)))
  obtain ⟨c, hc, fc⟩ := h2 enc w n _ _ k2 (fun m hm => hw m (List.mem_append_right _ (List.mem_append_right _ hm)))
  rw [ct] at hl
  refine ⟨⟨a, b, c⟩, ?_, fa, fb, fc⟩
  show cs = termL a ++ (termL b ++ termL c)
  rw [← ha, ← hb, ← hc, List.take_of_length_le (l := cs.drop 6) (by rw [List.length_drop]; omega)]
  have e1 : cs.drop 3 = (cs.drop 3).take 3 ++ cs.drop 6 := by
    conv => lhs; rw [← List.take_append_drop 3 (cs.drop 3), List.drop_drop]
  rw [← e1, List.take_append_drop]
end
theorem opens_termA : Opens Tryz.prog termK 23 := opens_term Tryz.underlying23 Tryz.underlying3 Tryz.underlying9 Tryz.underlying9 rfl (by kernel_rfl) rfl (by kernel_rfl) rfl (by kernel_rfl) (by kernel_rfl)
theorem opens_triA : Opens Tryz.prog triK 25 := opens_tri Tryz.underlying25 opens_termA opens_termA opens_termA rfl (by kernel_rfl) rfl (by kernel_rfl) rfl (by kernel_rfl) (by kernel_rfl)
theorem opens_triples : Opens Tryz.prog triK.sl 31 := Opens.slice Tryz.underlying31 (by kernel_rfl) (of_decide_eq_true (by kernel_rfl)) opens_triA
def zeroD0 {H : Type} : DataW H := .agg [.lit (.int .i64 0), .lit (.string []), .lit (.string [])]
def zeroD {H : Type} : DataW H := .agg [zeroD0, zeroD0, zeroD0]
end Go.Proofs.YtmcoloapiiakbaaGreatDoor.Tri
