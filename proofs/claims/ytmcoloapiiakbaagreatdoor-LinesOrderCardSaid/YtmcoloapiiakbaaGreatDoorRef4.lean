/-
  What the reference of term answers.
-/
import Derived.Test.YtmcoloapiiakbaaGreatDoorLinesPure
import Derived.Test.YtmcoloapiiakbaaGreatDoorBase
import Derived.Test.YtmcoloapiiakbaaGreatDoorProg
import Derived.WalkKit
import Derived.Lib.Hide
import Derived.Deep.LoopGhost
import Derived.Deep.QuietTactic
import Derived.BigQuiet
import Derived.Deep.DeepCutAuto
set_option linter.unusedVariables false
set_option linter.unusedSimpArgs false
namespace Go.Proofs.YtmcoloapiiakbaaGreatDoor.Ref4
open Go.RowKit Go.Lib Go.Proofs.YtmcoloapiiakbaaGreatDoor.B Go.Proofs.YtmcoloapiiakbaaGreatDoor.Utf Go.Proofs.YtmcoloapiiakbaaGreatDoor.TermPure Go.Proofs.YtmcoloapiiakbaaGreatDoor.LinesPure

theorem mkS_get (l : List UInt8) (k : Nat) (h : k < (mkS l).size) (h' : k < l.length) : (mkS l)[k] = l[k] := rfl
theorem alnum_calls (b : UInt8) (w : World) :
    Calls Tryz.prog 87 #[.int .u8 b.toNat] w fun e w' => e = .returned (.bool (alnum b.toNat)) ∧ w = w' := by
  have h := b.toNat_lt
  unfold alnum
  generalize b.toNat = n at *
  go_enter Tryz.func87, Tryz.ntmps87
  go_wp2
  all_goals go_ret
  all_goals exact ⟨ret_bool (by rw [Bool.eq_iff_iff]; simp; omega), rfl⟩

set_option maxHeartbeats 800000 in
theorem label_calls (l : List UInt8) (hl : l.length ≤ 140737488355328) (w : World) :
    Calls Tryz.prog 68 #[.string (mkS l)] w fun e w' => e = .returned (.bool (isLabel l)) ∧ w = w' := by
  have hsz := mkS_size l
  go_enter Tryz.func68, Tryz.ntmps68
  go_wp2
  go_loopw [3] (fun vi wr => ∃ k : Nat, k ≤ l.length ∧ vi = .int .i64 k ∧ wr = w ∧ Hid ((l.take k).all (fun b => alnum b.toNat) = true)) (fun vi _ => l.length - (intOf vi).toNat)
  case atStart => exact ⟨0, by omega, rfl, rfl, Lib.hid rfl⟩
  case round =>
    obtain ⟨k, hk, rfl, rfl, HA⟩ := hrel
    by_cases hlt : k < l.length
    · have hd : decide (k < l.length) = true := decide_eq_true hlt
      have ik : (k : Int) < (l.length : Int) := by omega
      have ik0 : (0 : Int) ≤ (k : Int) := by omega
      obtain ⟨b, hb0⟩ : ∃ b, l[k] = b := ⟨_, rfl⟩
      have hks : k < (mkS l).size := by rw [hsz]; exact hlt
      have hg : (mkS l)[k]'hks = b := (mkS_get l k hks hlt).trans hb0
      have hgl : Hid (l.take (k + 1) = l.take k ++ [b]) := Lib.hid (by rw [List.take_succ_eq_append_getElem hlt, hb0])
      have HN : Hid (alnum b.toNat = false → isLabel l = false) := Lib.hid (fun h => by
        have : (l.all fun b => alnum b.toNat) = false := by
          rw [List.all_eq_false]
          exact ⟨b, by rw [← hb0]; exact List.getElem_mem hlt, by simp [h]⟩
        rw [isLabel, this]
        simp)
      clear hb0
      go_wp2_with fail
      refine (alnum_calls b _).mono ?_
      rintro e w1 ⟨rfl, rfl⟩
      cases hb : alnum b.toNat with
      | true =>
        go_wp2
        go_roundw
        case rel => exact ⟨k + 1, by omega, by go_num, by first | rfl | trivial, Lib.hid (by rw [hgl.out, List.all_append, HA.out]; simp [hb])⟩
        case measure => simp [intOf]; omega
      | false =>
        have HF := Lib.hid (HN.out hb)
        go_wp2
        go_ret
        exact ⟨ret_bool HF.out.symm, rfl⟩
    · obtain rfl : k = l.length := by omega
      rw [List.take_length] at HA
      have HF : Hid (isLabel l = (decide (1 ≤ l.length) && decide (l.length ≤ 8))) := Lib.hid (by
        rw [isLabel, HA.out]
        cases l <;> simp)
      by_cases c1 : 1 ≤ l.length
      · have d1 : decide ((1 : Int) ≤ (l.length : Int)) = true := decide_eq_true (by omega)
        by_cases c8 : l.length ≤ 8
        · have d8 : decide ((l.length : Int) ≤ 8) = true := decide_eq_true (by omega)
          have HF' := Lib.hid (HF.out.trans (by simp [c1, c8] : _ = true))
          go_wp2
          go_ret
          exact ⟨ret_bool HF'.out.symm, rfl⟩
        · have d8 : decide ((l.length : Int) ≤ 8) = false := decide_eq_false (by omega)
          have HF' := Lib.hid (HF.out.trans (by simp [c8] : _ = false))
          go_wp2
          go_ret
          exact ⟨ret_bool HF'.out.symm, rfl⟩
      · have d1 : decide ((1 : Int) ≤ (l.length : Int)) = false := decide_eq_false (by omega)
        have HF' := Lib.hid (HF.out.trans (by simp [c1] : _ = false))
        go_wp2
        go_ret
        exact ⟨ret_bool HF'.out.symm, rfl⟩

theorem iriRune_plain (n : Nat) : iriRune n = true ↔ (33 ≤ n ∧ n ≤ 126 ∧ n ≠ 34 ∧ n ≠ 60 ∧ n ≠ 62 ∧ n ≠ 92 ∧ n ≠ 94 ∧ n ≠ 96 ∧ n ≠ 123 ∧ n ≠ 124 ∧ n ≠ 125) ∨ 160 ≤ n := by
  unfold iriRune odd
  simp
  omega
set_option maxHeartbeats 800000 in
theorem iriRune_calls (n : Nat) (hn : n ≤ 1114111) (w : World) :
    Calls Tryz.prog 98 #[.int .i32 n] w fun e w' => e = .returned (.bool (iriRune n)) ∧ w = w' := by
  have hp := Lib.hid (iriRune_plain n)
  go_enter Tryz.func98, Tryz.ntmps98
  go_wp2
  all_goals go_ret
  all_goals simp only [beq_iff_eq, beq_eq_false_iff_ne, ne_eq, Bool.not_eq_true] at *
  all_goals exact ⟨ret_bool (by rw [Bool.eq_iff_iff, hp.out]; simp; omega), by first | rfl | trivial⟩

set_option maxHeartbeats 1600000 in
theorem lang_calls (l : List UInt8) (hl : l.length ≤ 140737488355328) (w : World) :
    Calls Tryz.prog 69 #[.string (mkS l)] w fun e w' => e = .returned (.bool (isLang l)) ∧ Below w.heap.size w w' := by
  have hsz := mkS_size l
  go_enter Tryz.func69, Tryz.ntmps69
  go_wp2
  go_loopw [3, 4, 5] (fun vp vm vi wr => ∃ k p m : Nat, k ≤ l.length ∧ vi = .int .i64 k ∧ vp = .int .i64 p ∧ vm = .int .i64 m ∧ p ≤ k ∧ m ≤ 8 ∧ Hid (Below w.heap.size w wr) ∧ Hid (langGo false 0 l = langGo (decide (0 < p)) m (l.drop k))) (fun _ _ vi _ => l.length - (intOf vi).toNat)
  case atStart => exact ⟨0, 0, 0, by omega, rfl, rfl, rfl, by omega, by omega, Lib.hid (Below.refl _ _), Lib.hid (by simp)⟩
  case round =>
    obtain ⟨k, p, m, hk, rfl, rfl, rfl, hpk, hm, HW, HL⟩ := hrel
    by_cases hlt : k < l.length
    · have hd : decide (k < l.length) = true := decide_eq_true hlt
      have ik : (k : Int) < (l.length : Int) := by omega
      have ik0 : (0 : Int) ≤ (k : Int) := by omega
      obtain ⟨b, hb0⟩ : ∃ b, l[k] = b := ⟨_, rfl⟩
      have hks : k < (mkS l).size := by rw [hsz]; exact hlt
      have hg : (mkS l)[k]'hks = b := (mkS_get l k hks hlt).trans hb0
      have HD : Hid (l.drop k = b :: l.drop (k + 1)) := Lib.hid (by rw [List.drop_eq_getElem_cons hlt, hb0])
      rw [HD.out] at HL
      clear hb0 HD
      have hbl := b.toNat_lt
      generalize hB : b.toNat = B at *
      go_wp2_with fail
      go_cut [6, 7] (fun v6 v7 wx => v6 = .bool (decide (97 ≤ B) && decide (B ≤ 122)) ∧ v7 = .bool (decide (48 ≤ B) && decide (B ≤ 57)) ∧ Hid (Below w.heap.size w wx))
      case first =>
        clear HL hd
        by_cases a1 : 97 ≤ B
        · have e1 : decide (97 ≤ (B : Int)) = true := decide_eq_true (by omega)
          have e3 : decide (48 ≤ (B : Int)) = true := decide_eq_true (by omega)
          have e4 : decide ((B : Int) ≤ 57) = false := decide_eq_false (by omega)
          by_cases a2 : B ≤ 122
          · have e2 : decide ((B : Int) ≤ 122) = true := decide_eq_true (by omega)
            go_quiet (fail)
            go_wp2
            go_meet
            exact ⟨by simp; omega, by simp; omega, Lib.hid (bel_drewN HW.out _)⟩
          · have e2 : decide ((B : Int) ≤ 122) = false := decide_eq_false (by omega)
            go_quiet (fail)
            go_wp2
            go_meet
            exact ⟨by simp; omega, by simp; omega, Lib.hid (bel_drewN HW.out _)⟩
        · have e1 : decide (97 ≤ (B : Int)) = false := decide_eq_false (by omega)
          by_cases a3 : 48 ≤ B
          · have e3 : decide (48 ≤ (B : Int)) = true := decide_eq_true (by omega)
            by_cases a4 : B ≤ 57
            · have e4 : decide ((B : Int) ≤ 57) = true := decide_eq_true (by omega)
              go_quiet (fail)
              go_wp2
              go_meet
              exact ⟨by simp; omega, by simp; omega, Lib.hid (bel_drewN HW.out _)⟩
            · have e4 : decide ((B : Int) ≤ 57) = false := decide_eq_false (by omega)
              go_quiet (fail)
              go_wp2
              go_meet
              exact ⟨by simp; omega, by simp; omega, Lib.hid (bel_drewN HW.out _)⟩
          · have e3 : decide (48 ≤ (B : Int)) = false := decide_eq_false (by omega)
            go_quiet (fail)
            go_wp2
            go_meet
            exact ⟨by simp; omega, by simp; omega, Lib.hid (bel_drewN HW.out _)⟩
      case rest =>
        obtain ⟨rfl, rfl, HW2⟩ := hcut
        have w1 : IntKind.i64.wrap ((m : Int) + 1) = ((m + 1 : Nat) : Int) := by rw [IntKind.wrap_i64]; omega
        have w2 : IntKind.i64.wrap ((p : Int) + 1) = ((p + 1 : Nat) : Int) := by rw [IntKind.wrap_i64]; omega
        have hb45 : (b = 45) ↔ B = 45 := by rw [← hB]; exact ⟨fun h => by rw [h]; rfl, fun h => UInt8.toNat_inj.1 h⟩
        rw [langGo] at HL
        rw [hB] at HL
        by_cases c45 : B = 45
        · have d45 : ((B : Int) == 45) = true := by rw [beq_iff_eq]; omega
          rw [if_pos (hb45.2 c45)] at HL
          have s1 : (decide (97 ≤ B) && decide (B ≤ 122)) = false := by simp; omega
          have s2 : (decide (48 ≤ B) && decide (B ≤ 57)) = false := by simp; omega
          rw [s1, s2]
          clear hb45 s1 s2
          by_cases cm : 0 < m
          · have dm : decide (0 < m) = true := decide_eq_true cm
            rw [dm] at HL
            go_wp2
            go_roundw
            case rel => exact ⟨k + 1, p + 1, 0, by omega, by go_num, by go_num, rfl, by omega, by omega, HW2, Lib.hid (by rw [HL.out]; simp)⟩
            case measure => simp [intOf]; omega
          · have dm : decide (0 < m) = false := decide_eq_false cm
            rw [dm] at HL
            have HF : Hid (isLang l = false) := Lib.hid (by rw [isLang, HL.out]; simp)
            go_wp2
            go_ret
            exact ⟨ret_bool HF.out.symm, HW2.out⟩
        · have d45 : ((B : Int) == 45) = false := by rw [beq_eq_false_iff_ne]; omega
          rw [if_neg (fun h => c45 (hb45.1 h))] at HL
          clear hb45
          have w8 : IntKind.i64.wrap ((m : Int) + 1) = ((m + 1 : Nat) : Int) := w1
          generalize (decide (97 ≤ B) && decide (B ≤ 122)) = sm at *
          generalize (decide (48 ≤ B) && decide (B ≤ 57)) = dg at *
          by_cases good : (sm || (decide (0 < p) && dg)) = true
          · rw [if_pos good] at HL
            by_cases c8 : m < 8
            · have d8 : decide (8 < ((m + 1 : Nat) : Int)) = false := decide_eq_false (by omega)
              have HL' : Hid (langGo false 0 l = langGo (decide (0 < p)) (m + 1) (l.drop (k + 1))) := Lib.hid (by rw [HL.out, decide_eq_true c8]; rfl)
              cases sm with
              | true =>
                clear good
                go_wp2
                go_roundw
                case rel => exact ⟨k + 1, p, m + 1, by omega, by go_num, rfl, by go_num, by omega, by omega, HW2, HL'⟩
                case measure => simp [intOf]; omega
              | false =>
                rw [Bool.false_or, Bool.and_eq_true] at good
                obtain ⟨gp, rfl⟩ := good
                go_wp2
                go_roundw
                case rel => exact ⟨k + 1, p, m + 1, by omega, by go_num, rfl, by go_num, by omega, by omega, HW2, HL'⟩
                case measure => simp [intOf]; omega
            · have d8 : decide (8 < ((m + 1 : Nat) : Int)) = true := decide_eq_true (by omega)
              have HF : Hid (isLang l = false) := Lib.hid (by rw [isLang, HL.out, decide_eq_false c8]; rfl)
              cases sm with
              | true =>
                clear good
                go_wp2
                go_ret
                exact ⟨ret_bool HF.out.symm, HW2.out⟩
              | false =>
                rw [Bool.false_or, Bool.and_eq_true] at good
                obtain ⟨gp, rfl⟩ := good
                go_wp2
                go_ret
                exact ⟨ret_bool HF.out.symm, HW2.out⟩
          · rw [if_neg good] at HL
            have HF : Hid (isLang l = false) := Lib.hid (by rw [isLang, HL.out]; rfl)
            cases sm with
            | true => exact absurd rfl good
            | false =>
              cases dg with
              | false =>
                clear good
                go_wp2
                go_ret
                exact ⟨ret_bool HF.out.symm, HW2.out⟩
              | true =>
                have gp : decide (0 < p) = false := by
                  cases h : decide (0 < p) with
                  | false => rfl
                  | true => rw [h] at good; exact absurd rfl good
                clear good
                go_wp2
                go_ret
                exact ⟨ret_bool HF.out.symm, HW2.out⟩
    · obtain rfl : k = l.length := by omega
      rw [List.drop_length] at HL
      have HF : Hid (isLang l = (decide (0 < m) && decide (l.length ≤ 16))) := Lib.hid (by rw [isLang, HL.out, langGo])
      clear HL
      by_cases cm : 0 < m
      · have dm : decide (0 < m) = true := decide_eq_true cm
        by_cases c16 : l.length ≤ 16
        · have d16 : decide ((l.length : Int) ≤ 16) = true := decide_eq_true (by omega)
          have HF' := Lib.hid (HF.out.trans (by simp [cm, c16] : _ = true))
          go_wp2
          go_ret
          exact ⟨ret_bool HF'.out.symm, HW.out⟩
        · have d16 : decide ((l.length : Int) ≤ 16) = false := decide_eq_false (by omega)
          have HF' := Lib.hid (HF.out.trans (by simp [c16] : _ = false))
          go_wp2
          go_ret
          exact ⟨ret_bool HF'.out.symm, HW.out⟩
      · have dm : decide (0 < m) = false := decide_eq_false cm
        have HF' := Lib.hid (HF.out.trans (by simp [cm] : _ = false))
        go_wp2
        go_ret
        exact ⟨ret_bool HF'.out.symm, HW.out⟩
end Go.Proofs.YtmcoloapiiakbaaGreatDoor.Ref4
