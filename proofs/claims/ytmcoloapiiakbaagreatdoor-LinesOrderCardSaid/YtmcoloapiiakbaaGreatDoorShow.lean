/-
  What term.Show answers.
-/
import Derived.Test.YtmcoloapiiakbaaGreatDoorBld
import Derived.Test.YtmcoloapiiakbaaGreatDoorRef5h
import Derived.RegionTactic
set_option linter.unusedVariables false
set_option linter.unusedSimpArgs false
namespace Go.Proofs.YtmcoloapiiakbaaGreatDoor.Show
open Go.RowKit Go.Lib Go.Proofs.YtmcoloapiiakbaaGreatDoor.B Go.Proofs.YtmcoloapiiakbaaGreatDoor.Rd Go.Proofs.YtmcoloapiiakbaaGreatDoor.Utf Go.Proofs.YtmcoloapiiakbaaGreatDoor.TermPure Go.Proofs.YtmcoloapiiakbaaGreatDoor.Tx Go.Proofs.YtmcoloapiiakbaaGreatDoor.Env Go.Proofs.YtmcoloapiiakbaaGreatDoor.Bld

theorem hexD_all : ∀ k : Fin 16, ([48, 49, 50, 51, 52, 53, 54, 55, 56, 57, 65, 66, 67, 68, 69, 70] : List UInt8).getD k.val 0 = hexD k.val := by decide
theorem hexS (k : Nat) (hk : k < 16) : (⟨#[48, 49, 50, 51, 52, 53, 54, 55, 56, 57, 65, 66, 67, 68, 69, 70]⟩ : ByteArray).extract k (k + 1) = mkS [hexD k] := by
  have h := mkS_extract [48, 49, 50, 51, 52, 53, 54, 55, 56, 57, 65, 66, 67, 68, 69, 70] k (k + 1)
  rw [show k + 1 - k = 1 from by omega] at h
  refine Eq.trans h ?_
  congr 1
  have hl : k < ([48, 49, 50, 51, 52, 53, 54, 55, 56, 57, 65, 66, 67, 68, 69, 70] : List UInt8).length := hk
  have hd := hexD_all ⟨k, hk⟩
  rw [List.getD_eq_getElem?_getD, List.getElem?_eq_getElem hl] at hd
  rw [List.drop_eq_getElem_cons hl, List.take_succ_cons, List.take_zero]
  exact congrArg (fun x => [x]) hd
set_option maxHeartbeats 800000 in
theorem escaped_hex (n : Nat) (hn : n < 32 ∨ n = 127) (h8 : n ≠ 8) (h9 : n ≠ 9) (h10 : n ≠ 10) (h12 : n ≠ 12) (h13 : n ≠ 13) (w : World) :
    Calls Tryz.prog 102 #[.int .u8 (n : Int)] w fun e w' => e = .returned (.string (mkS [92, 117, 48, 48, hexD (n / 16), hexD (n % 16)])) ∧ Below w.heap.size w w' := by
  have e1 : ((n : Int) == 34) = false := by rw [beq_eq_false_iff_ne]; omega
  have e2 : ((n : Int) == 92) = false := by rw [beq_eq_false_iff_ne]; omega
  have e3 : ((n : Int) == 10) = false := by rw [beq_eq_false_iff_ne]; omega
  have e4 : ((n : Int) == 13) = false := by rw [beq_eq_false_iff_ne]; omega
  have e5 : ((n : Int) == 9) = false := by rw [beq_eq_false_iff_ne]; omega
  have e6 : ((n : Int) == 8) = false := by rw [beq_eq_false_iff_ne]; omega
  have e7 : ((n : Int) == 12) = false := by rw [beq_eq_false_iff_ne]; omega
  have i0 : (0 : Int) ≤ (n : Int) := by omega
  have i1 : (n : Int) ≤ 127 := by omega
  have H1 := Lib.hid (hexS (n / 16) (by omega))
  have H2 := Lib.hid (hexS (n % 16) (by omega))
  go_enter Tryz.func102, Tryz.ntmps102
  go_wp2
  go_quiet (fail)
  go_wp2
  go_ret
  exact ⟨(ret_str (by rw [H1.out, H2.out]; rfl) : Ending.returned (.string ((⟨#[92, 117, 48, 48]⟩ : ByteArray) ++ (⟨#[48, 49, 50, 51, 52, 53, 54, 55, 56, 57, 65, 66, 67, 68, 69, 70]⟩ : ByteArray).extract (n / 16) (n / 16 + 1) ++ (⟨#[48, 49, 50, 51, 52, 53, 54, 55, 56, 57, 65, 66, 67, 68, 69, 70]⟩ : ByteArray).extract (n % 16) (n % 16 + 1))) = .returned (.string (mkS [92, 117, 48, 48, hexD (n / 16), hexD (n % 16)]))), bel_drewN (Below.refl _ _) _⟩
/-- What escaped tells of the signs that have one. -/
def short (n : Nat) : UInt8 := if n = 10 then 110 else if n = 13 then 114 else if n = 9 then 116 else if n = 8 then 98 else 102
set_option maxHeartbeats 800000 in
theorem escaped_short (n : Nat) (h : n = 8 ∨ n = 9 ∨ n = 10 ∨ n = 12 ∨ n = 13) (w : World) :
    Calls Tryz.prog 102 #[.int .u8 (n : Int)] w fun e w' => e = .returned (.string (mkS [92, short n])) ∧ Below w.heap.size w w' := by
  rcases h with rfl | rfl | rfl | rfl | rfl
  all_goals
    go_enter Tryz.func102, Tryz.ntmps102
    go_wp2
    go_ret
    exact ⟨rfl, Below.refl _ _⟩
set_option maxHeartbeats 800000 in
theorem escaped_sign (n : Nat) (h : n = 34 ∨ n = 92) (w : World) :
    Calls Tryz.prog 102 #[.int .u8 (n : Int)] w fun e w' => e = .returned (.string (mkS [92, UInt8.ofNat n])) ∧ Below w.heap.size w w' := by
  rcases h with rfl | rfl
  all_goals
    go_enter Tryz.func102, Tryz.ntmps102
    go_wp2
    go_ret
    exact ⟨rfl, Below.refl _ _⟩
end Go.Proofs.YtmcoloapiiakbaaGreatDoor.Show
