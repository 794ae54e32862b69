/-
  The law LinesOne, walked.
-/
import Derived.Test.YtmcoloapiiakbaaGreatDoorKnown
import Derived.Test.YtmcoloapiiakbaaGreatDoorLineEq
set_option linter.unusedVariables false
set_option linter.unusedSimpArgs false
namespace Go.Proofs.YtmcoloapiiakbaaGreatDoor.LOne
open Go.RowKit Go.Lib Go.Proofs.YtmcoloapiiakbaaGreatDoor.B Go.Proofs.YtmcoloapiiakbaaGreatDoor.Rd Go.Proofs.YtmcoloapiiakbaaGreatDoor.Utf Go.Proofs.YtmcoloapiiakbaaGreatDoor.TermPure Go.Proofs.YtmcoloapiiakbaaGreatDoor.LinesPure Go.Proofs.YtmcoloapiiakbaaGreatDoor.Tx Go.Proofs.YtmcoloapiiakbaaGreatDoor.Env Go.Proofs.YtmcoloapiiakbaaGreatDoor.Tri Go.Proofs.YtmcoloapiiakbaaGreatDoor.Ref5

theorem oneV_shape (r : Option (Option Triple)) : ∃ (x : Triple) (b c : Bool), oneV r = .tuple #[tripleV x, .bool b, .bool c] := by
  cases r with
  | none => exact ⟨zeroTr, _, _, rfl⟩
  | some o => cases o with
    | none => exact ⟨zeroTr, _, _, rfl⟩
    | some t => exact ⟨t, _, _, rfl⟩
set_option maxHeartbeats 1600000 in
set_option maxRecDepth 100000 in
theorem walk (w : World) (he : Env w) (s : ByteArray) (hs : s.size ≤ maxLen) : Calls Tryz.prog 3 #[.string s] w fun e w' => e = .returned (.bool true) ∧ Below w.heap.size w w' := by
  obtain ⟨l, rfl⟩ : ∃ l, s = mkS l := ⟨_, eq_mkS s⟩
  have zl := mkS_size l
  clear hs
  by_cases hl : 600 < l.length
  · have hd : decide (600 < l.length) = true := decide_eq_true hl
    go_enter Tryz.func3, Tryz.ntmps3
    go_wp2
    go_ret
    exact ⟨rfl, Below.refl _ _⟩
  · have hd : decide (600 < l.length) = false := decide_eq_false hl
    have HA := Lib.hid (Prg.one_calls l (by omega) w he)
    have HR := Lib.hid (fun w1 he1 => Ref5.one_calls l (by omega) w1 he1)
    rw [LineEq.lineOf_one] at HR
    obtain ⟨x, b, c, hx⟩ := oneV_shape (lineOf false l)
    rw [hx] at HA HR
    clear hx
    obtain ⟨⟨sk, sx, se⟩, ⟨pk, px, pe⟩, ⟨ok, ox, oe⟩⟩ := x
    unfold tripleV at HA HR
    dsimp only at HA HR
    have HE := Lib.hid he
    clear he
    go_enter Tryz.func3, Tryz.ntmps3
    go_wp2_with fail
    refine HA.out.mono ?_
    rintro e w1 ⟨⟨rfl, _⟩, hb⟩
    have HB := Lib.hid (bel_alloc hb (.cells #[.int .i64 sk, .string (mkS sx), .string (mkS se), .int .i64 pk, .string (mkS px), .string (mkS pe), .int .i64 ok, .string (mkS ox), .string (mkS oe)] 25))
    have HE1 := Lib.hid (HE.out.below HB.out)
    have HT1 := Lib.hid (T9.new w1 ⟨⟨sk, sx, se⟩, ⟨pk, px, pe⟩, ⟨ok, ox, oe⟩⟩)
    clear hb
    go_wp2_with fail
    refine (HR.out _ HE1.out).mono ?_
    rintro e w2 ⟨⟨rfl, _⟩, hb⟩
    have HT2 := Lib.hid (HT1.out.below hb)
    have HB2 := Lib.hid (bel_alloc (bel_step HB.out hb) (.cells #[.int .i64 sk, .string (mkS sx), .string (mkS se), .int .i64 pk, .string (mkS px), .string (mkS pe), .int .i64 ok, .string (mkS ox), .string (mkS oe)] 25))
    have HE2 := Lib.hid (HE.out.below HB2.out)
    have hz : w1.heap.size < w2.heap.size := HT2.out.s.lt
    obtain ⟨⟨k0, k1, k2, _, _, _⟩, ⟨k3, k4, k5, _, _, _⟩, ⟨k6, k7, k8, _, _, _⟩⟩ := HT2.out
    dsimp only at k0 k1 k2 k3 k4 k5 k6 k7 k8
    clear hb HT1
    go_wp2_with fail
    refine (Known.known_calls _ HE2.out).mono ?_
    rintro e w3 ⟨rfl, hb⟩
    have HB3 := Lib.hid (bel_step HB2.out hb)
    clear hb
    go_wp2
    go_ret
    exact ⟨rfl, HB3.out⟩
end Go.Proofs.YtmcoloapiiakbaaGreatDoor.LOne
