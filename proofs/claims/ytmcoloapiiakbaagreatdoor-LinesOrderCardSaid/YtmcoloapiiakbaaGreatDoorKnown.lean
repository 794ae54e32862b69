/-
  What triviumlaw5.known answers: true.
-/
import Derived.Test.YtmcoloapiiakbaaGreatDoorPrint
import Derived.Test.YtmcoloapiiakbaaGreatDoorPrgC
import Derived.Test.YtmcoloapiiakbaaGreatDoorTriEq
set_option linter.unusedVariables false
set_option linter.unusedSimpArgs false
namespace Go.Proofs.YtmcoloapiiakbaaGreatDoor.Known
open Go.RowKit Go.Lib Go.Proofs.YtmcoloapiiakbaaGreatDoor.B Go.Proofs.YtmcoloapiiakbaaGreatDoor.Rd Go.Proofs.YtmcoloapiiakbaaGreatDoor.Utf Go.Proofs.YtmcoloapiiakbaaGreatDoor.TermPure Go.Proofs.YtmcoloapiiakbaaGreatDoor.LinesPure Go.Proofs.YtmcoloapiiakbaaGreatDoor.Tx Go.Proofs.YtmcoloapiiakbaaGreatDoor.Env Go.Proofs.YtmcoloapiiakbaaGreatDoor.Tri Go.Proofs.YtmcoloapiiakbaaGreatDoor.Ref5

def T0 : Triple := ⟨⟨1, [97], []⟩, ⟨1, [98], []⟩, ⟨3, [99], []⟩⟩
theorem line0 : lineOf false [60, 97, 62, 60, 98, 62, 34, 99, 34, 46] = some (some T0) := by decide +kernel
theorem print0 : [T0].flatMap Print.lineN = [60, 97, 62, 32, 60, 98, 62, 32, 34, 99, 34, 32, 46, 10] := by decide +kernel
/-- A row of one triple, just laid. -/
theorem one_row (w : World) (t : Triple) (ht : FitsW3 t) : triK.sl.M (w.alloc (.cells (triL t).toArray 25)) (fun k => k < (w.alloc (.cells (triL t).toArray 25)).heap.size) [t] [.slice (some ⟨w.heap.size, 0, none⟩) 1 1] := by
  refine ⟨some ⟨w.heap.size, 0, none⟩, 1, rfl, Nat.le_refl _, ⟨by simp, by unfold maxLen; omega⟩, fun h => (by cases h), fun i x hx => ?_⟩
  cases i with
  | zero =>
    simp at hx
    subst hx
    refine ⟨_, triL t, rfl, by simp, ⟨rfl, ht⟩, fun j u hu => ?_⟩
    rw [Nat.zero_mul, Nat.zero_add, add_plain, World.cell?, Kd.heap_new]
    simpa using hu
  | succ i => simp at hx
set_option maxHeartbeats 1600000 in
set_option maxRecDepth 100000 in
theorem known_calls (w : World) (he : Env w) : Calls Tryz.prog 12 #[] w fun e w' => e = .returned (.bool true) ∧ Below w.heap.size w w' := by
  have HA := Lib.hid (Prg.one_calls [60, 97, 62, 60, 98, 62, 34, 99, 34, 46] (by decide) w he)
  rw [line0] at HA
  have HP := Lib.hid (fun w => Print.print_calls [T0] (some ⟨w.heap.size, 0, none⟩) 1 (w.alloc (.cells (triL T0).toArray 25)) (one_row w T0 (by unfold FitsW3 FitsW; decide)) (by intro t ht; simp at ht; subst ht; unfold Print.SmallT; decide) (by rw [print0]; decide))
  rw [print0] at HP
  clear he
  go_enter Tryz.func12, Tryz.ntmps12
  go_wp2_with fail
  refine HA.out.mono ?_
  rintro e w1 ⟨⟨rfl, _⟩, hb⟩
  have HB := Lib.hid (bel_alloc (bel_alloc hb (.cells (triL T0).toArray 25)) (.cells (triL T0).toArray 25))
  clear hb
  unfold oneV tripleV T0
  dsimp only
  have m1 := mkS_toList [99]
  have m2 : (⟨#[99]⟩ : ByteArray).toList = [99] := mkS_toList [99]
  have m3 := mkS_toList []
  have m4 : (⟨#[]⟩ : ByteArray).toList = [] := mkS_toList []
  have m5 := mkS_toList [98]
  have m6 : (⟨#[98]⟩ : ByteArray).toList = [98] := mkS_toList [98]
  have m7 := mkS_toList [60, 97, 62, 32, 60, 98, 62, 32, 34, 99, 34, 32, 46, 10]
  have m8 : (⟨#[60, 97, 62, 32, 60, 98, 62, 32, 34, 99, 34, 32, 46, 10]⟩ : ByteArray).toList = [60, 97, 62, 32, 60, 98, 62, 32, 34, 99, 34, 32, 46, 10] := mkS_toList [60, 97, 62, 32, 60, 98, 62, 32, 34, 99, 34, 32, 46, 10]
  go_wp2_with fail
  · have HP1 := HP.out (w1.alloc (.cells (triL T0).toArray 25))
    rw [show (w1.alloc (.cells (triL T0).toArray 25)).heap.size = w1.heap.size + 1 by simp] at HP1
    refine HP1.mono ?_
    rintro e w2 ⟨rfl, hb2⟩
    have HB2 := Lib.hid (bel_step HB.out hb2)
    clear hb2 HP1
    go_wp2
    go_ret
    exact ⟨rfl, HB2.out⟩
end Go.Proofs.YtmcoloapiiakbaaGreatDoor.Known
