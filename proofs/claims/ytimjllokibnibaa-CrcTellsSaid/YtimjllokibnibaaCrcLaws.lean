/-
  The laws of crc, walked.
-/
import Derived.Test.YtimjllokibnibaaCrcWalk
import Derived.Test.YtimjllokibnibaaBase
import Derived.WalkKit
import Derived.Lib.SlBytesConst
set_option linter.unusedVariables false
set_option linter.unusedSimpArgs false
namespace Go.Proofs.Ytimjllokibnibaa.CrcLaws
open Go.RowKit Go.Proofs.Ytimjllokibnibaa.CrcPure Go.Proofs.Ytimjllokibnibaa.B Go.Proofs.Ytimjllokibnibaa.CrcWalk

set_option maxHeartbeats 400000 in
theorem known_calls (w : World) :
    Calls Try.prog 19 #[] w fun e w' => e = .returned (.bool true) ∧ Below w.heap.size w w' := by
  have kc := fun (w : World) (C : Array Value) (n c : Nat) => Lib.run_convert_bytes_const (P := Try.prog) w 22 5 C n c Try.underlying22 Try.underlying5
  go_enter Try.func19, Try.ntmps19
  go_wp2_with fail
  refine (sum_calls [[49, 50, 51, 52, 53, 54, 55, 56, 57]] (some ⟨w.heap.size + 1, 0, none⟩) _ (fun _ => True) _ (by decide) ?row).mono ?_
  case row =>
    exact Kd.row_one (C := #[.slice (some ⟨w.heap.size, 0, none⟩) 9 9]) (by repeat (first | exact Kd.bi_new (by simp) | refine Kd.bi_old ?_)) trivial (Kd.u8_sl (by decide) (by decide) (fun h => (by cases h)) (Kd.row_u8 (by repeat (first | exact Kd.bi_new (by simp) | refine Kd.bi_old ?_)) trivial rfl))
  rintro e w' ⟨rfl, rfl⟩
  rw [show ([[49, 50, 51, 52, 53, 54, 55, 56, 57]] : List (List UInt8)).flatten = [49, 50, 51, 52, 53, 54, 55, 56, 57] from rfl, crc_known]
  go_wp2_with fail
  refine (sum_calls [] none _ (fun _ => True) _ (by decide) (Kd.row_nil _ _ _ _)).mono ?_
  rintro e w' ⟨rfl, rfl⟩
  rw [show (([] : List (List UInt8)).flatten) = [] from rfl, crc_nil, show ((11994318 : Nat) : Int) = 11994318 from rfl]
  go_wp2_with fail
  go_ret
  exact ⟨rfl, ((Below.refl _ _).alloc (Nat.le_refl _) _).alloc (by simp) _⟩

set_option maxHeartbeats 400000 in
theorem tells (w : World) (l : List UInt8) (v : Value) (m : u8.sl.M w (fun _ => True) l [v]) :
    Calls Try.prog 3 #[v] w fun e w' => e = .returned (.bool true) ∧ Below w.heap.size w w' := by
  obtain ⟨A, c, hv, h1, h2, h3, hr⟩ := m
  simp at hv
  subst hv
  by_cases hl : 3000 < l.length
  · have hq : decide ((3000 : Int) < (l.length : Int)) = true := by simp; omega
    go_enter Try.func3, Try.ntmps3
    go_wp2
    go_ret
    exact ⟨rfl, Below.refl _ _⟩
  · have hq : decide ((3000 : Int) < (l.length : Int)) = false := by simp; omega
    have HR := Lib.hid hr
    clear hr
    go_enter Try.func3, Try.ntmps3
    go_wp2_with fail
    have b0 : Below w.heap.size w (w.alloc (.cells #[.slice A l.length c] 22)) := (Below.refl _ _).alloc (Nat.le_refl _) _
    refine (sum_calls [l] (some ⟨w.heap.size, 0, none⟩) _ (fun _ => True) _ (by simp [maxLen]) ?row).mono ?_
    case row => exact Kd.row_one (C := #[.slice A l.length c]) (by repeat (first | exact Kd.bi_new (by simp) | refine Kd.bi_old ?_)) trivial (Kd.u8_sl h1 h2 h3 (Kd.row_below HR.out b0))
    rintro e w' ⟨rfl, rfl⟩
    rw [show [l].flatten = l by simp]
    go_wp2_with fail
    refine (ref_calls l _ _ (fun _ => True) _ (by unfold maxLen; omega) (Kd.row_below HR.out b0)).mono ?_
    rintro e w' ⟨rfl, rfl⟩
    go_wp2_with fail
    refine (known_calls _).mono ?_
    rintro e w' ⟨rfl, hb⟩
    have hb' : Below w.heap.size w w' := b0.trans (hb.mono (by simp))
    go_wp2_with fail
    go_ret
    exact ⟨rfl, hb'⟩
end Go.Proofs.Ytimjllokibnibaa.CrcLaws
