/-
  What the reference of lines answers: up to a sign.
-/
import Derived.Test.YtmcoloapiiakbaaGreatDoorRef5b
set_option linter.unusedVariables false
set_option linter.unusedSimpArgs false
namespace Go.Proofs.YtmcoloapiiakbaaGreatDoor.Ref5
open Go.RowKit Go.Lib Go.Proofs.YtmcoloapiiakbaaGreatDoor.B Go.Proofs.YtmcoloapiiakbaaGreatDoor.Rd Go.Proofs.YtmcoloapiiakbaaGreatDoor.Utf Go.Proofs.YtmcoloapiiakbaaGreatDoor.TermPure Go.Proofs.YtmcoloapiiakbaaGreatDoor.LinesPure Go.Proofs.YtmcoloapiiakbaaGreatDoor.Tx

theorem esc_calls (s : List UInt8) (lit : Bool) (hs : s.length ≤ 70368744177663) (w : World) :
    Calls Tryz.prog 86 #[.string (mkS s), .bool lit] w fun e w' => (∃ (o : List UInt8) (n : Nat), e = .returned (.tuple #[.string (mkS o), .int .i64 n]) ∧ EscIs lit s o n) ∧ Below w.heap.size w w' := by
  cases s with
  | nil => exact (esc_nil_calls lit w).mono fun e w' ⟨h1, h2⟩ => by subst h2; exact ⟨⟨[], 0, h1, .inl ⟨rfl, rfl, rfl⟩⟩, Below.refl _ _⟩
  | cons b t =>
    simp at hs
    by_cases h1 : b.toNat = 117
    · exact esc_num_calls b t 4 (.inl ⟨h1, rfl⟩) lit (by omega) w
    · by_cases h2 : b.toNat = 85
      · exact esc_num_calls b t 8 (.inr ⟨h2, rfl⟩) lit (by omega) w
      · exact esc_sign_calls b t h1 h2 lit (by omega) w
/-- What the reader tells up to a sign. -/
def UpPost (w : World) (rb : Nat) (bad : Bool) (r : Option (List UInt8 × List UInt8)) (e : Ending) (w' : World) : Prop := match r with
  | none => e = .returned (.string (mkS [])) ∧ Step w w' rb [] true
  | some (o, t) => e = .returned (.string (mkS o)) ∧ Step w w' rb t bad
set_option maxRecDepth 100000 in
set_option maxHeartbeats 3200000 in
theorem upTo_calls (rb : Nat) (s : List UInt8) (bad lit : Bool) (stop : UInt8) (w : World) (h : At w rb s bad) :
    Calls Tryz.prog 59 #[.pointer (some ⟨rb, 0, none⟩), .int .u8 stop.toNat, .bool lit] w fun e w' => UpPost w rb bad (up stop lit true s) e w' := by
  have HS0 := Lib.hid (Step.refl h)
  have z := mkS_size s
  clear h
  go_enter Tryz.func59, Tryz.ntmps59
  go_wp2
  go_loopg [7, 8] (s.length + 1) (fun n v7 v8 wr => ∃ (k : Nat) (out : List UInt8), k ≤ s.length ∧ Hid (n = s.length + 1 - k) ∧ v8 = .int .i64 k ∧ v7 = .string (mkS out) ∧ out.length ≤ k ∧ Hid (Step w wr rb s bad) ∧ Hid (up stop lit true s = (up stop lit true (s.drop k)).map (fun x => (out ++ x.1, x.2))))
  case atStart => exact ⟨0, [], by omega, Lib.hid (by simp), rfl, rfl, by simp, HS0, Lib.hid (by simp)⟩
  case round =>
    obtain ⟨k, out, hk, HN, rfl, rfl, ho, HS, HU⟩ := hrel
    obtain ⟨c0, c1, f0, f1, len⟩ := HS.out.at'
    have ik0 : (0 : Int) ≤ (k : Int) := by omega
    have zo := mkS_size out
    by_cases hlt : k < s.length
    · have hd : decide (k < s.length) = true := decide_eq_true hlt
      have ik : (k : Int) < (s.length : Int) := by omega
      have ik2 : (k : Int) + 1 ≤ (s.length : Int) := by omega
      obtain ⟨b, hb0⟩ : ∃ b, s[k] = b := ⟨_, rfl⟩
      have hks : k < (mkS s).size := by rw [z]; exact hlt
      have hg : (mkS s)[k]'hks = b := (Rd.mkS_get s k hks hlt).trans hb0
      have HD : Hid (s.drop k = b :: s.drop (k + 1)) := Lib.hid (by rw [List.drop_eq_getElem_cons hlt, hb0])
      have HX : Hid ((mkS s).extract (k + 1) s.length = mkS (s.drop (k + 1))) := Lib.hid (by rw [mkS_extract, List.take_of_length_le (by simp)])
      have HY : Hid ((mkS s).extract k (k + 1) = mkS [b]) := Lib.hid (by
        rw [mkS_extract, show k + 1 - k = 1 from by omega, HD.out]
        rfl)
      have HDL : Hid ((s.drop (k + 1)).length = s.length - (k + 1)) := Lib.hid (by simp)
      rw [HD.out] at HU
      clear hb0 HD
      by_cases b1 : b = stop
      · subst b1
        have HR := Lib.hid (HU.out.trans (by rw [up_stop]))
        clear HU
        go_wp2
        go_ret
        rw [HR.out]
        exact ⟨(ret_str (by rw [List.append_nil]) : Ending.returned (.string (mkS out)) = .returned (.string (mkS (out ++ [])))), by rw [HX.out]; exact HS.out.set0 (by rw [HDL.out]; omega)⟩
      · have e1 : ((b.toNat : Int) == (stop.toNat : Int)) = false := by
          rw [beq_eq_false_iff_ne]
          intro e
          exact b1 (UInt8.toNat_inj.1 (by omega))
        by_cases b2 : b = 92
        · have e2 : ((b.toNat : Int) == 92) = true := by rw [beq_iff_eq, b2]; rfl
          have HE0 := Lib.hid (up_esc_none stop lit true b (s.drop (k + 1)) b1 b2)
          have HE1 := Lib.hid (fun o r => up_esc stop lit true b (s.drop (k + 1)) o r b1 b2)
          clear b1 b2
          go_wp2_with fail
          rw [HX.out]
          refine (esc_calls (s.drop (k + 1)) lit (by rw [HDL.out]; omega) _).mono ?_
          rintro e w1 ⟨⟨o, n, rfl, he⟩, hb1⟩
          have HS1 := Lib.hid (HS.out.below hb1)
          clear c0 c1 f0 f1 HS hb1
          obtain ⟨c0, c1, f0, f1, _⟩ := HS1.out.at'
          rcases he with ⟨rfl, rfl, he⟩ | ⟨hn1, hn2, he, hol⟩
          · have HR := Lib.hid (HU.out.trans (by rw [HE0.out he]))
            clear he HU
            go_wp2_with fail
            refine (fail_calls rb s bad _ HS1.out.at').mono ?_
            rintro e w2 ⟨rfl, hs2⟩
            have HS2 := Lib.hid (HS1.out.trans hs2)
            clear hs2
            go_wp2
            go_ret
            rw [HR.out]
            exact ⟨rfl, HS2.out⟩
          · have HR := Lib.hid (HU.out.trans (by rw [HE1.out o _ he]))
            rw [HDL.out] at hn2
            clear he HU
            have hn0 : ((n : Int) == 0) = false := by rw [beq_eq_false_iff_ne]; omega
            have zo2 := mkS_size o
            have HO := Lib.hid (mkS_append out o)
            have i5 : (n : Int) + (k : Int) + 1 ≤ (s.length : Int) := by omega
            go_wp2
            go_roundg (s.length + 1 - (k + n + 1))
            case measure => have := HN.out; omega
            case rel => exact ⟨k + n + 1, out ++ o, by omega, Lib.hid rfl, by go_num, by rw [HO.out], by simp; omega, HS1, Lib.hid (by
              rw [HR.out, List.drop_drop, Option.map_map, show k + 1 + n = k + n + 1 from by omega]
              congr 1
              funext x
              simp)⟩
        · have e2 : ((b.toNat : Int) == 92) = false := by
            rw [beq_eq_false_iff_ne]
            intro e
            exact b2 (UInt8.toNat_inj.1 (by show b.toNat = 92; omega))
          by_cases b3 : b = 10 ∨ b = 13
          · have HR := Lib.hid (HU.out.trans (by rw [up_line stop lit true b _ b1 b2 ⟨rfl, b3⟩]))
            clear HU
            have h3 : ((b.toNat : Int) == 10) = true ∨ ((b.toNat : Int) == 10) = false ∧ ((b.toNat : Int) == 13) = true := by
              rcases b3 with rfl | rfl
              · exact .inl rfl
              · exact .inr ⟨rfl, rfl⟩
            clear b1 b2 b3
            rcases h3 with h3 | ⟨h3, h4⟩
            all_goals
              go_wp2_with fail
              refine (fail_calls rb s bad _ HS.out.at').mono ?_
              rintro e w2 ⟨rfl, hs2⟩
              have HS2 := Lib.hid (HS.out.trans hs2)
              clear hs2
              go_wp2
              go_ret
              rw [HR.out]
              exact ⟨rfl, HS2.out⟩
          · have HR := Lib.hid (HU.out.trans (by rw [up_other stop lit true b _ b1 b2 (fun h => b3 h.2)]))
            have h3 : ((b.toNat : Int) == 10) = false := by
              rw [beq_eq_false_iff_ne]
              intro e
              exact b3 (.inl (UInt8.toNat_inj.1 (by show b.toNat = 10; omega)))
            have h4 : ((b.toNat : Int) == 13) = false := by
              rw [beq_eq_false_iff_ne]
              intro e
              exact b3 (.inr (UInt8.toNat_inj.1 (by show b.toNat = 13; omega)))
            have HO := Lib.hid (mkS_append out [b])
            have zx : ((mkS s).extract k (k + 1)).size = 1 := by rw [HY.out]; rfl
            clear HU b1 b2 b3
            go_wp2
            go_roundg (s.length + 1 - (k + 1))
            case measure => have := HN.out; omega
            case rel => exact ⟨k + 1, out ++ [b], by omega, Lib.hid rfl, by go_num, by rw [HY.out, HO.out], by simp; omega, HS, Lib.hid (by
              rw [HR.out, Option.map_map]
              congr 1
              funext x
              simp)⟩
    · obtain rfl : k = s.length := by omega
      have HR := Lib.hid (HU.out.trans (by rw [List.drop_length, up_nil]))
      clear HU
      go_wp2_with fail
      refine (fail_calls rb s bad _ HS.out.at').mono ?_
      rintro e w2 ⟨rfl, hs2⟩
      have HS2 := Lib.hid (HS.out.trans hs2)
      clear hs2
      go_wp2
      go_ret
      rw [HR.out]
      exact ⟨rfl, HS2.out⟩
end Go.Proofs.YtmcoloapiiakbaaGreatDoor.Ref5
