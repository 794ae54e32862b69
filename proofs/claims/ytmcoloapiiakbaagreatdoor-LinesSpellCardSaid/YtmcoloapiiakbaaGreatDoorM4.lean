/-
  Texts of the claim, one behind the other: RefCmp, RefCmp2, Long, Prg6, Prg7, Split, Prg8, Prg9, PrgA, PrgB.
-/
import Derived.Test.YtmcoloapiiakbaaGreatDoorM3
import Derived.Lib.SplitLaws
import Derived.Lib.CountLaws
import Derived.Lib.IndexLaws
import Derived.Deep.CutBlock
/-
  How the reference shows terms and sets them in order.
-/
set_option linter.unusedVariables false
set_option linter.unusedSimpArgs false
namespace Go.Proofs.YtmcoloapiiakbaaGreatDoor.RefCmp
open Go.RowKit Go.Lib Go.Proofs.YtmcoloapiiakbaaGreatDoor.B Go.Proofs.YtmcoloapiiakbaaGreatDoor.Rd Go.Proofs.YtmcoloapiiakbaaGreatDoor.Utf Go.Proofs.YtmcoloapiiakbaaGreatDoor.TermPure Go.Proofs.YtmcoloapiiakbaaGreatDoor.LinesPure Go.Proofs.YtmcoloapiiakbaaGreatDoor.Tx Go.Proofs.YtmcoloapiiakbaaGreatDoor.Env Go.Proofs.YtmcoloapiiakbaaGreatDoor.Tri Go.Proofs.YtmcoloapiiakbaaGreatDoor.SortP Go.Proofs.YtmcoloapiiakbaaGreatDoor.Print Go.Proofs.YtmcoloapiiakbaaGreatDoor.Cmp

def nth (k : Nat) : Nat := [34, 92, 10, 13, 9, 8, 12].getD k 0
theorem one_byte (s : List UInt8) (k : Nat) (h : k < s.length) : (mkS s).extract k (k + 1) = mkS [s[k]] := by
  rw [mkS_extract, show k + 1 - k = 1 by omega, List.drop_eq_getElem_cons h, List.take_succ_cons, List.take_zero]
set_option maxHeartbeats 6400000 in
set_option maxRecDepth 100000 in
theorem escaped_calls (s : List UInt8) (hs : s.length ≤ 1099511627776) (w : World) :
    Calls Tryz.prog 73 #[.string (mkS s)] w fun e w' => e = .returned (.string (mkS (s.flatMap escB))) ∧ Below w.heap.size w w' := by
  have zs := mkS_size s
  go_enter Tryz.func73, Tryz.ntmps73
  go_wp2
  go_loopw [6, 7] (fun vo vi wr => ∃ (k : Nat) (out : List UInt8), k ≤ s.length ∧ vi = .int .i64 k ∧ vo = .string (mkS out) ∧ Hid (out = (s.take k).flatMap escB) ∧ Hid (Below w.heap.size w wr)) (fun _ vi _ => s.length - (intOf vi).toNat)
  case atStart => exact ⟨0, [], by omega, rfl, rfl, Lib.hid rfl, Lib.hid (Below.refl _ _)⟩
  case round =>
    obtain ⟨k, out, hk, rfl, rfl, HO, HW⟩ := hrel
    have zo := mkS_size out
    by_cases hlt : k < s.length
    · have hd : decide (k < s.length) = true := decide_eq_true hlt
      have ik : (k : Int) < (s.length : Int) := by omega
      have hlen : out.length ≤ 6 * s.length := by rw [HO.out]; exact Nat.le_trans (Show.flat_len _) (by rw [List.length_take]; omega)
      have HT := Lib.hid (Show.flat_take s k hlt)
      have H1 := Lib.hid (one_byte s k hlt)
      obtain ⟨b, hb⟩ : ∃ b, s[k] = b := ⟨_, rfl⟩
      have hks : k < (mkS s).size := by rw [zs]; exact hlt
      have hg : (mkS s)[k]'hks = b := (Rd.mkS_get s k hks hlt).trans hb
      rw [hb] at HT H1
      clear hb
      obtain ⟨n, hn⟩ : ∃ n, n = b.toNat := ⟨_, rfl⟩
      have hn256 : n < 256 := by rw [hn]; exact b.toNat_lt
      have HN := Lib.hid hn
      have hbn : b.toNat = n := hn.symm
      clear hn
      have g0 : (⟨#[34, 92, 10, 13, 9, 8, 12]⟩ : ByteArray)[0].toNat = 34 := rfl
      have g1 : (⟨#[34, 92, 10, 13, 9, 8, 12]⟩ : ByteArray)[1].toNat = 92 := rfl
      have g2 : (⟨#[34, 92, 10, 13, 9, 8, 12]⟩ : ByteArray)[2].toNat = 10 := rfl
      have g3 : (⟨#[34, 92, 10, 13, 9, 8, 12]⟩ : ByteArray)[3].toNat = 13 := rfl
      have g4 : (⟨#[34, 92, 10, 13, 9, 8, 12]⟩ : ByteArray)[4].toNat = 9 := rfl
      have g5 : (⟨#[34, 92, 10, 13, 9, 8, 12]⟩ : ByteArray)[5].toNat = 8 := rfl
      have g6 : (⟨#[34, 92, 10, 13, 9, 8, 12]⟩ : ByteArray)[6].toNat = 12 := rfl
      have q1 : (⟨#[92]⟩ : ByteArray).size = 1 := rfl
      have x1 : (mkS out ++ (⟨#[92]⟩ : ByteArray)).size = out.length + 1 := by rw [ByteArray.size_append, zo, q1]
      have q4 : (⟨#[92, 117, 48, 48]⟩ : ByteArray).size = 4 := rfl
      have x4 : (mkS out ++ (⟨#[92, 117, 48, 48]⟩ : ByteArray)).size = out.length + 4 := by rw [ByteArray.size_append, zo, q4]
      go_wp2
      go_loopw [9] (fun v9 wx => ∃ j : Nat, j ≤ 7 ∧ v9 = .int .i64 j ∧ wx = wr ∧ Hid (∀ i, i < j → n ≠ nth i)) (fun v9 _ => 7 - (intOf v9).toNat)
      case atStart => exact ⟨0, by omega, rfl, by first | rfl | trivial, Lib.hid (fun i h => absurd h (by omega))⟩
      case round =>
        obtain ⟨j, hj, rfl, rfl, HJ⟩ := hrel
        have hj8 : j = 0 ∨ j = 1 ∨ j = 2 ∨ j = 3 ∨ j = 4 ∨ j = 5 ∨ j = 6 ∨ j = 7 := by omega
        rcases hj8 with rfl | rfl | rfl | rfl | rfl | rfl | rfl | rfl
        · by_cases e : n = 34
          · have hne : ((34 : Int) != (n : Int)) = false := by rw [bne_eq_false_iff_eq]; omega
            have HE : Hid (escB b = [92, 34]) := Lib.hid (by
              obtain rfl : b = 34 := by apply UInt8.toNat_inj.1; rw [hbn, e]; rfl
              rfl)
            have HX : Hid (mkS out ++ (⟨#[92]⟩ : ByteArray) ++ (⟨#[34, 92, 110, 114, 116, 98, 102]⟩ : ByteArray).extract 0 1 = mkS (out ++ [92, 34])) := Lib.hid (by
              rw [show (⟨#[34, 92, 110, 114, 116, 98, 102]⟩ : ByteArray).extract 0 1 = mkS [34] by decide, mkS_lit, mkS_append, mkS_append]
              simp)
            clear e HJ
            go_wp2
            refine ⟨⟨k + 1, out ++ [92, 34], by omega, by go_num, by first | exact (by rw [← HX.out]; rfl) | rw [HX.out], Lib.hid (by rw [HT.out, ← HO.out, HE.out]), HW⟩, ?_⟩
            simp [intOf]; omega
          · have hne : ((34 : Int) != (n : Int)) = true := by rw [bne_iff_ne]; omega
            have HJ2 : Hid (∀ i, i < 1 → n ≠ nth i) := Lib.hid (fun i hi => by
              by_cases h : i < 0
              · exact HJ.out i h
              · obtain rfl : i = 0 := by omega
                exact e)
            clear e HJ
            go_wp2
            go_roundw
            case rel => exact ⟨1, by omega, by go_num, by first | rfl | trivial, HJ2⟩
            case measure => simp [intOf]
        · by_cases e : n = 92
          · have hne : ((92 : Int) != (n : Int)) = false := by rw [bne_eq_false_iff_eq]; omega
            have HE : Hid (escB b = [92, 92]) := Lib.hid (by
              obtain rfl : b = 92 := by apply UInt8.toNat_inj.1; rw [hbn, e]; rfl
              rfl)
            have HX : Hid (mkS out ++ (⟨#[92]⟩ : ByteArray) ++ (⟨#[34, 92, 110, 114, 116, 98, 102]⟩ : ByteArray).extract 1 2 = mkS (out ++ [92, 92])) := Lib.hid (by
              rw [show (⟨#[34, 92, 110, 114, 116, 98, 102]⟩ : ByteArray).extract 1 2 = mkS [92] by decide, mkS_lit, mkS_append, mkS_append]
              simp)
            clear e HJ
            go_wp2
            refine ⟨⟨k + 1, out ++ [92, 92], by omega, by go_num, by first | exact (by rw [← HX.out]; rfl) | rw [HX.out], Lib.hid (by rw [HT.out, ← HO.out, HE.out]), HW⟩, ?_⟩
            simp [intOf]; omega
          · have hne : ((92 : Int) != (n : Int)) = true := by rw [bne_iff_ne]; omega
            have HJ2 : Hid (∀ i, i < 2 → n ≠ nth i) := Lib.hid (fun i hi => by
              by_cases h : i < 1
              · exact HJ.out i h
              · obtain rfl : i = 1 := by omega
                exact e)
            clear e HJ
            go_wp2
            go_roundw
            case rel => exact ⟨2, by omega, by go_num, by first | rfl | trivial, HJ2⟩
            case measure => simp [intOf]
        · by_cases e : n = 10
          · have hne : ((10 : Int) != (n : Int)) = false := by rw [bne_eq_false_iff_eq]; omega
            have HE : Hid (escB b = [92, 110]) := Lib.hid (by
              obtain rfl : b = 10 := by apply UInt8.toNat_inj.1; rw [hbn, e]; rfl
              rfl)
            have HX : Hid (mkS out ++ (⟨#[92]⟩ : ByteArray) ++ (⟨#[34, 92, 110, 114, 116, 98, 102]⟩ : ByteArray).extract 2 3 = mkS (out ++ [92, 110])) := Lib.hid (by
              rw [show (⟨#[34, 92, 110, 114, 116, 98, 102]⟩ : ByteArray).extract 2 3 = mkS [110] by decide, mkS_lit, mkS_append, mkS_append]
              simp)
            clear e HJ
            go_wp2
            refine ⟨⟨k + 1, out ++ [92, 110], by omega, by go_num, by first | exact (by rw [← HX.out]; rfl) | rw [HX.out], Lib.hid (by rw [HT.out, ← HO.out, HE.out]), HW⟩, ?_⟩
            simp [intOf]; omega
          · have hne : ((10 : Int) != (n : Int)) = true := by rw [bne_iff_ne]; omega
            have HJ2 : Hid (∀ i, i < 3 → n ≠ nth i) := Lib.hid (fun i hi => by
              by_cases h : i < 2
              · exact HJ.out i h
              · obtain rfl : i = 2 := by omega
                exact e)
            clear e HJ
            go_wp2
            go_roundw
            case rel => exact ⟨3, by omega, by go_num, by first | rfl | trivial, HJ2⟩
            case measure => simp [intOf]
        · by_cases e : n = 13
          · have hne : ((13 : Int) != (n : Int)) = false := by rw [bne_eq_false_iff_eq]; omega
            have HE : Hid (escB b = [92, 114]) := Lib.hid (by
              obtain rfl : b = 13 := by apply UInt8.toNat_inj.1; rw [hbn, e]; rfl
              rfl)
            have HX : Hid (mkS out ++ (⟨#[92]⟩ : ByteArray) ++ (⟨#[34, 92, 110, 114, 116, 98, 102]⟩ : ByteArray).extract 3 4 = mkS (out ++ [92, 114])) := Lib.hid (by
              rw [show (⟨#[34, 92, 110, 114, 116, 98, 102]⟩ : ByteArray).extract 3 4 = mkS [114] by decide, mkS_lit, mkS_append, mkS_append]
              simp)
            clear e HJ
            go_wp2
            refine ⟨⟨k + 1, out ++ [92, 114], by omega, by go_num, by first | exact (by rw [← HX.out]; rfl) | rw [HX.out], Lib.hid (by rw [HT.out, ← HO.out, HE.out]), HW⟩, ?_⟩
            simp [intOf]; omega
          · have hne : ((13 : Int) != (n : Int)) = true := by rw [bne_iff_ne]; omega
            have HJ2 : Hid (∀ i, i < 4 → n ≠ nth i) := Lib.hid (fun i hi => by
              by_cases h : i < 3
              · exact HJ.out i h
              · obtain rfl : i = 3 := by omega
                exact e)
            clear e HJ
            go_wp2
            go_roundw
            case rel => exact ⟨4, by omega, by go_num, by first | rfl | trivial, HJ2⟩
            case measure => simp [intOf]
        · by_cases e : n = 9
          · have hne : ((9 : Int) != (n : Int)) = false := by rw [bne_eq_false_iff_eq]; omega
            have HE : Hid (escB b = [92, 116]) := Lib.hid (by
              obtain rfl : b = 9 := by apply UInt8.toNat_inj.1; rw [hbn, e]; rfl
              rfl)
            have HX : Hid (mkS out ++ (⟨#[92]⟩ : ByteArray) ++ (⟨#[34, 92, 110, 114, 116, 98, 102]⟩ : ByteArray).extract 4 5 = mkS (out ++ [92, 116])) := Lib.hid (by
              rw [show (⟨#[34, 92, 110, 114, 116, 98, 102]⟩ : ByteArray).extract 4 5 = mkS [116] by decide, mkS_lit, mkS_append, mkS_append]
              simp)
            clear e HJ
            go_wp2
            refine ⟨⟨k + 1, out ++ [92, 116], by omega, by go_num, by first | exact (by rw [← HX.out]; rfl) | rw [HX.out], Lib.hid (by rw [HT.out, ← HO.out, HE.out]), HW⟩, ?_⟩
            simp [intOf]; omega
          · have hne : ((9 : Int) != (n : Int)) = true := by rw [bne_iff_ne]; omega
            have HJ2 : Hid (∀ i, i < 5 → n ≠ nth i) := Lib.hid (fun i hi => by
              by_cases h : i < 4
              · exact HJ.out i h
              · obtain rfl : i = 4 := by omega
                exact e)
            clear e HJ
            go_wp2
            go_roundw
            case rel => exact ⟨5, by omega, by go_num, by first | rfl | trivial, HJ2⟩
            case measure => simp [intOf]
        · by_cases e : n = 8
          · have hne : ((8 : Int) != (n : Int)) = false := by rw [bne_eq_false_iff_eq]; omega
            have HE : Hid (escB b = [92, 98]) := Lib.hid (by
              obtain rfl : b = 8 := by apply UInt8.toNat_inj.1; rw [hbn, e]; rfl
              rfl)
            have HX : Hid (mkS out ++ (⟨#[92]⟩ : ByteArray) ++ (⟨#[34, 92, 110, 114, 116, 98, 102]⟩ : ByteArray).extract 5 6 = mkS (out ++ [92, 98])) := Lib.hid (by
              rw [show (⟨#[34, 92, 110, 114, 116, 98, 102]⟩ : ByteArray).extract 5 6 = mkS [98] by decide, mkS_lit, mkS_append, mkS_append]
              simp)
            clear e HJ
            go_wp2
            refine ⟨⟨k + 1, out ++ [92, 98], by omega, by go_num, by first | exact (by rw [← HX.out]; rfl) | rw [HX.out], Lib.hid (by rw [HT.out, ← HO.out, HE.out]), HW⟩, ?_⟩
            simp [intOf]; omega
          · have hne : ((8 : Int) != (n : Int)) = true := by rw [bne_iff_ne]; omega
            have HJ2 : Hid (∀ i, i < 6 → n ≠ nth i) := Lib.hid (fun i hi => by
              by_cases h : i < 5
              · exact HJ.out i h
              · obtain rfl : i = 5 := by omega
                exact e)
            clear e HJ
            go_wp2
            go_roundw
            case rel => exact ⟨6, by omega, by go_num, by first | rfl | trivial, HJ2⟩
            case measure => simp [intOf]
        · by_cases e : n = 12
          · have hne : ((12 : Int) != (n : Int)) = false := by rw [bne_eq_false_iff_eq]; omega
            have HE : Hid (escB b = [92, 102]) := Lib.hid (by
              obtain rfl : b = 12 := by apply UInt8.toNat_inj.1; rw [hbn, e]; rfl
              rfl)
            have HX : Hid (mkS out ++ (⟨#[92]⟩ : ByteArray) ++ (⟨#[34, 92, 110, 114, 116, 98, 102]⟩ : ByteArray).extract 6 7 = mkS (out ++ [92, 102])) := Lib.hid (by
              rw [show (⟨#[34, 92, 110, 114, 116, 98, 102]⟩ : ByteArray).extract 6 7 = mkS [102] by decide, mkS_lit, mkS_append, mkS_append]
              simp)
            clear e HJ
            go_wp2
            refine ⟨⟨k + 1, out ++ [92, 102], by omega, by go_num, by first | exact (by rw [← HX.out]; rfl) | rw [HX.out], Lib.hid (by rw [HT.out, ← HO.out, HE.out]), HW⟩, ?_⟩
            simp [intOf]; omega
          · have hne : ((12 : Int) != (n : Int)) = true := by rw [bne_iff_ne]; omega
            have HJ2 : Hid (∀ i, i < 7 → n ≠ nth i) := Lib.hid (fun i hi => by
              by_cases h : i < 6
              · exact HJ.out i h
              · obtain rfl : i = 6 := by omega
                exact e)
            clear e HJ
            go_wp2
            go_roundw
            case rel => exact ⟨7, by omega, by go_num, by first | rfl | trivial, HJ2⟩
            case measure => simp [intOf]
        · have m0 := HJ.out 0 (by omega)
          have m1 := HJ.out 1 (by omega)
          have m2 := HJ.out 2 (by omega)
          have m3 := HJ.out 3 (by omega)
          have m4 := HJ.out 4 (by omega)
          have m5 := HJ.out 5 (by omega)
          have m6 := HJ.out 6 (by omega)
          simp only [nth, List.getD_cons_zero, List.getD_cons_succ] at m0 m1 m2 m3 m4 m5 m6
          by_cases h3 : n < 32 ∨ n = 127
          · have HE := Lib.hid (Show.esc_hex HN.out h3 m5 m4 m2 m6 m3)
            have H1x := Lib.hid (Show.hexS (n / 16) (by omega))
            have H2x := Lib.hid (Show.hexS (n % 16) (by omega))
            have i0 : (0 : Int) ≤ (n : Int) := by omega
            have i1 : (n : Int) ≤ 127 := by omega
            have hor : (decide ((n : Int) < 32) = true) ∨ (decide ((n : Int) < 32) = false ∧ ((n : Int) == 127) = true) := by
              by_cases h : n < 32
              · exact .inl (decide_eq_true (by omega))
              · exact .inr ⟨decide_eq_false (by omega), by rw [beq_iff_eq]; omega⟩
            clear h3 m0 m1 m2 m3 m4 m5 m6 HJ
            rcases hor with d1 | ⟨d1, d2⟩
            all_goals
              go_wp2
              go_quiet (fail)
              go_wp2
              refine ⟨⟨k + 1, out ++ [92, 117, 48, 48, hexD (n / 16), hexD (n % 16)], by omega, by go_num, by rw [H1x.out, H2x.out, mkS_lit, mkS_append, mkS_append, mkS_append]; simp, Lib.hid (by rw [HT.out, ← HO.out, HE.out]), Lib.hid (bel_drewN HW.out _)⟩, ?_⟩
              simp [intOf]; omega
          · have HE := Lib.hid (Show.esc_none HN.out (by omega) (by omega) m0 m1)
            have d1 : decide ((n : Int) < 32) = false := decide_eq_false (by omega)
            have d2 : ((n : Int) == 127) = false := by rw [beq_eq_false_iff_ne]; omega
            clear h3 m0 m1 m2 m3 m4 m5 m6 HJ
            go_wp2
            refine ⟨⟨k + 1, out ++ [b], by omega, by go_num, by rw [H1.out, mkS_append], Lib.hid (by rw [HT.out, ← HO.out, HE.out]), HW⟩, ?_⟩
            simp [intOf]; omega
    · have hd : decide (k < s.length) = false := decide_eq_false hlt
      obtain rfl : k = s.length := by omega
      have HO' : Hid (out = s.flatMap escB) := Lib.hid (by have := HO.out; rwa [List.take_length] at this)
      clear HO
      go_wp2
      go_ret
      exact ⟨ret_str (by rw [HO'.out]), HW.out⟩
end Go.Proofs.YtmcoloapiiakbaaGreatDoor.RefCmp
/-
  How the reference shows terms and sets them in order: the rest.
-/
set_option linter.unusedVariables false
set_option linter.unusedSimpArgs false
namespace Go.Proofs.YtmcoloapiiakbaaGreatDoor.RefCmp
open Go.RowKit Go.Lib Go.Proofs.YtmcoloapiiakbaaGreatDoor.B Go.Proofs.YtmcoloapiiakbaaGreatDoor.Rd Go.Proofs.YtmcoloapiiakbaaGreatDoor.Utf Go.Proofs.YtmcoloapiiakbaaGreatDoor.TermPure Go.Proofs.YtmcoloapiiakbaaGreatDoor.LinesPure Go.Proofs.YtmcoloapiiakbaaGreatDoor.Tx Go.Proofs.YtmcoloapiiakbaaGreatDoor.Env Go.Proofs.YtmcoloapiiakbaaGreatDoor.Tri Go.Proofs.YtmcoloapiiakbaaGreatDoor.SortP Go.Proofs.YtmcoloapiiakbaaGreatDoor.Print Go.Proofs.YtmcoloapiiakbaaGreatDoor.Cmp

set_option maxHeartbeats 1600000 in
theorem show4_calls (t : Term) (ht : SmallM t) (w : World) :
    Calls Tryz.prog 47 #[Ref5.termV t] w fun e w' => e = .returned (.string (mkS (shown t))) ∧ Below w.heap.size w w' := by
  obtain ⟨kind, x, ex⟩ := t
  obtain ⟨hx, hex⟩ := ht
  dsimp only at hx hex
  have HQ := Lib.hid (fun w => escaped_calls x hx w)
  have hql := Show.flat_len x
  have zx := mkS_size x
  have ze := mkS_size ex
  unfold Ref5.termV
  dsimp only
  have HBX := Lib.hid (fun k => Tc.TC.new w ⟨k, x, ex⟩)
  have HBe := Lib.hid (fun (k : Int) => bel_alloc (Below.refl w.heap.size w) (.cells #[.int .i64 k, .string (mkS x), .string (mkS ex)] 23))
  by_cases h1 : kind = 1
  · subst h1
    have z1 : (⟨#[60]⟩ : ByteArray).size = 1 := rfl
    have z2 : ((⟨#[60]⟩ : ByteArray) ++ mkS x).size = 1 + x.length := by rw [ByteArray.size_append, z1, zx]
    have z3 : (⟨#[62]⟩ : ByteArray).size = 1 := rfl
    go_enter Tryz.func47, Tryz.ntmps47
    go_wp2
    go_ret
    exact ⟨ret_str (by rw [mkS_lit, mkS_lit, mkS_append, mkS_append]; rfl), HBe.out _⟩
  have e1 : (kind == 1) = false := by rw [beq_eq_false_iff_ne]; exact h1
  by_cases h2 : kind = 2
  · subst h2
    have z1 : (⟨#[95, 58]⟩ : ByteArray).size = 2 := rfl
    go_enter Tryz.func47, Tryz.ntmps47
    go_wp2
    go_ret
    exact ⟨ret_str (by rw [mkS_lit, mkS_append]; rfl), HBe.out _⟩
  have e2 : (kind == 2) = false := by rw [beq_eq_false_iff_ne]; exact h2
  have HS0 : Hid (¬ kind = 1 ∧ ¬ kind = 2) := Lib.hid ⟨h1, h2⟩
  clear h1 h2
  have HQe : Hid (TermPure.quoted x = 34 :: (x.flatMap escB ++ [34])) := Lib.hid rfl
  generalize x.flatMap escB = q at *
  have zq := mkS_size q
  have y1 : (⟨#[34]⟩ : ByteArray).size = 1 := rfl
  have y2 : ((⟨#[34]⟩ : ByteArray) ++ mkS q).size = 1 + q.length := by rw [ByteArray.size_append, y1, zq]
  have y3 : ((⟨#[34]⟩ : ByteArray) ++ mkS q ++ (⟨#[34]⟩ : ByteArray)).size = 1 + q.length + 1 := by rw [ByteArray.size_append, y2, y1]
  have z1 : (⟨#[64]⟩ : ByteArray).size = 1 := rfl
  have z3 : (⟨#[62]⟩ : ByteArray).size = 1 := rfl
  have z5 : (⟨#[94, 94, 60]⟩ : ByteArray).size = 3 := rfl
  have y4 : ((⟨#[34]⟩ : ByteArray) ++ mkS q ++ (⟨#[34]⟩ : ByteArray) ++ (⟨#[64]⟩ : ByteArray)).size = 1 + q.length + 1 + 1 := by rw [ByteArray.size_append, y3, z1]
  have y5 : ((⟨#[34]⟩ : ByteArray) ++ mkS q ++ (⟨#[34]⟩ : ByteArray) ++ (⟨#[94, 94, 60]⟩ : ByteArray)).size = 1 + q.length + 1 + 3 := by rw [ByteArray.size_append, y3, z5]
  have y6 : ((⟨#[34]⟩ : ByteArray) ++ mkS q ++ (⟨#[34]⟩ : ByteArray) ++ (⟨#[94, 94, 60]⟩ : ByteArray) ++ mkS ex).size = 1 + q.length + 1 + 3 + ex.length := by rw [ByteArray.size_append, y5, ze]
  have HK : Hid (kind = 4 ∨ kind = 5 ∨ (¬ kind = 4 ∧ ¬ kind = 5)) := Lib.hid (by omega)
  go_enter Tryz.func47, Tryz.ntmps47
  go_wp2_with fail
  refine (HQ.out _).mono ?_
  rintro e w2 ⟨rfl, hb⟩
  have HB := Lib.hid (bel_step (HBe.out kind) hb)
  obtain ⟨k0, k1, k2, _, _, _⟩ := (HBX.out kind).below hb
  dsimp only at k0 k1 k2
  clear hb
  rcases HK.out with h4 | h5 | ⟨h4, h5⟩
  · subst h4
    have HS : Hid (shown ⟨4, x, ex⟩ = TermPure.quoted x ++ 64 :: ex) := Lib.hid rfl
    go_wp2
    go_ret
    exact ⟨ret_str (by rw [HS.out, HQe.out, mkS_lit, mkS_lit, mkS_append, mkS_append, mkS_append, mkS_append]; simp), HB.out⟩
  · subst h5
    have HS : Hid (shown ⟨5, x, ex⟩ = TermPure.quoted x ++ (94 :: 94 :: 60 :: (ex ++ [62]))) := Lib.hid rfl
    go_wp2
    go_ret
    exact ⟨ret_str (by rw [HS.out, HQe.out, mkS_lit, mkS_lit, mkS_lit, mkS_append, mkS_append, mkS_append, mkS_append, mkS_append]; simp), HB.out⟩
  · have e4 : (kind == 4) = false := by rw [beq_eq_false_iff_ne]; exact h4
    have e5 : (kind == 5) = false := by rw [beq_eq_false_iff_ne]; exact h5
    have HS : Hid (shown ⟨kind, x, ex⟩ = TermPure.quoted x) := Lib.hid (by unfold shown; dsimp only; rw [if_neg HS0.out.1, if_neg HS0.out.2, if_neg h4, if_neg h5])
    clear h4 h5
    go_wp2
    go_ret
    exact ⟨ret_str (by rw [HS.out, HQe.out, mkS_lit, mkS_append, mkS_append]; rfl), HB.out⟩
set_option maxHeartbeats 1600000 in
theorem cmp4_calls (a b : Term) (ha : SmallM a) (hb : SmallM b) (w : World) : Calls Tryz.prog 36 #[Ref5.termV a, Ref5.termV b] w fun e w' => e = .returned (.int .i64 (cmpTm a b)) ∧ Below w.heap.size w w' := by
  obtain ⟨k, x, ex⟩ := a
  obtain ⟨k', x', ex'⟩ := b
  have H1 := Lib.hid (fun w => show4_calls ⟨k, x, ex⟩ ha w)
  have H2 := Lib.hid (fun w => show4_calls ⟨k', x', ex'⟩ hb w)
  have HV : Hid (cmpTm ⟨k, x, ex⟩ ⟨k', x', ex'⟩ = SortP.cmpL (shown ⟨k, x, ex⟩) (shown ⟨k', x', ex'⟩)) := Lib.hid rfl
  generalize shown ⟨k, x, ex⟩ = S1 at *
  generalize shown ⟨k', x', ex'⟩ = S2 at *
  have HX := Lib.hid (fun p => box2 w k x ex k' x' ex' p)
  have HBe := Lib.hid (bel_alloc (bel_alloc (Below.refl w.heap.size w) (.cells #[.int .i64 k, .string (mkS x), .string (mkS ex)] 23)) (.cells #[.int .i64 k', .string (mkS x'), .string (mkS ex')] 23))
  have a0 := fun p => (HX.out p).1.1
  have a1 := fun p => (HX.out p).1.2.1
  have a2 := fun p => (HX.out p).1.2.2
  have b0 := fun p => (HX.out p).2.1
  have b1 := fun p => (HX.out p).2.2.1
  have b2 := fun p => (HX.out p).2.2.2
  have hl := less_eq S1 S2
  have he := beq_eq S1 S2
  have HCases : Hid ((decide (S1 < S2) = true ∧ SortP.cmpL S1 S2 = -1) ∨ (decide (S1 < S2) = false ∧ decide (S1 = S2) = true ∧ SortP.cmpL S1 S2 = 0) ∨ (decide (S1 < S2) = false ∧ decide (S1 = S2) = false ∧ SortP.cmpL S1 S2 = 1)) := Lib.hid (by
    rcases SortP.cmpL_three S1 S2 with h | h | h
    · exact .inl ⟨decide_eq_true ((SortP.cmpL_neg S1 S2).1 (by rw [h]; decide)), h⟩
    · have := (SortP.cmpL_zero S1 S2).1 h
      exact .inr (.inl ⟨decide_eq_false (by rw [this]; exact List.lt_irrefl _), decide_eq_true this, h⟩)
    · refine .inr (.inr ⟨decide_eq_false (fun h' => ?_), decide_eq_false (fun h' => ?_), h⟩)
      · have := (SortP.cmpL_neg S1 S2).2 h'; omega
      · have := (SortP.cmpL_zero S1 S2).2 h'; omega)
  unfold Ref5.termV
  dsimp only
  clear ha hb
  rcases HCases.out with ⟨c1, c3⟩ | ⟨c1, c2, c3⟩ | ⟨c1, c2, c3⟩
  all_goals
    rw [c1] at hl
    try rw [c2] at he
    have HC3 := Lib.hid c3
    clear c1 c3 HCases
    try clear c2
    go_enter Tryz.func36, Tryz.ntmps36
    go_upto_region 1 with fail
    refine QT.region_all (by kernel_rfl) (by kernel_rfl) ?_
    iterate 1 (go_big_quiet_step (fail))
    go_big_quiet_step (exact QT.Bel.call _ (H1.out _))
    iterate 1 (go_big_quiet_step (fail))
    go_big_quiet_step (exact QT.Bel.call _ (H2.out _))
    repeat (go_big_quiet_step (fail))
    refine wpQuiet_nil ?_
    intro w2 hw'
    obtain ⟨⟨_, hb⟩, rfl⟩ := hw'
    have HB := Lib.hid (bel_step HBe.out hb)
    clear hb a0 a1 a2 b0 b1 b2
    go_wp2
    go_ret
    exact ⟨by rw [HV.out, HC3.out]; rfl, HB.out⟩
set_option maxHeartbeats 3200000 in
set_option maxRecDepth 100000 in
theorem cmp5_calls (a b : Triple) (ha : SmallT a) (hb : SmallT b) (w : World) : Calls Tryz.prog 16 #[Ref5.tripleV a, Ref5.tripleV b] w fun e w' => e = .returned (.int .i64 (cmpT a b)) ∧ Below w.heap.size w w' := by
  have HX := Lib.hid (fun p => box18 w a b p)
  have H1 := Lib.hid (fun w => cmp4_calls a.s b.s ha.1 hb.1 w)
  have H2 := Lib.hid (fun w => cmp4_calls a.p b.p ha.2.1 hb.2.1 w)
  have H3 := Lib.hid (fun w => cmp4_calls a.o b.o ha.2.2 hb.2.2 w)
  have HV : Hid (cmpT a b = orI (cmpTm a.s b.s) (cmpTm a.p b.p) (cmpTm a.o b.o)) := Lib.hid rfl
  have HBe := Lib.hid (bel_alloc (bel_alloc (Below.refl w.heap.size w) (.cells #[.int .i64 a.s.kind, .string (mkS a.s.text), .string (mkS a.s.extra), .int .i64 a.p.kind, .string (mkS a.p.text), .string (mkS a.p.extra), .int .i64 a.o.kind, .string (mkS a.o.text), .string (mkS a.o.extra)] 25)) (.cells #[.int .i64 b.s.kind, .string (mkS b.s.text), .string (mkS b.s.extra), .int .i64 b.p.kind, .string (mkS b.p.text), .string (mkS b.p.extra), .int .i64 b.o.kind, .string (mkS b.o.text), .string (mkS b.o.extra)] 25))
  have HZ := Lib.hid (show ((w.alloc (.cells #[.int .i64 a.s.kind, .string (mkS a.s.text), .string (mkS a.s.extra), .int .i64 a.p.kind, .string (mkS a.p.text), .string (mkS a.p.extra), .int .i64 a.o.kind, .string (mkS a.o.text), .string (mkS a.o.extra)] 25)).alloc (.cells #[.int .i64 b.s.kind, .string (mkS b.s.text), .string (mkS b.s.extra), .int .i64 b.p.kind, .string (mkS b.p.text), .string (mkS b.p.extra), .int .i64 b.o.kind, .string (mkS b.o.text), .string (mkS b.o.extra)] 25)).heap.size = w.heap.size + 2 by simp)
  generalize cmpTm a.s b.s = v1 at *
  generalize cmpTm a.p b.p = v2 at *
  generalize cmpTm a.o b.o = v3 at *
  obtain ⟨⟨sk, sx, se⟩, ⟨pk, px, pe⟩, ⟨ok, ox, oe⟩⟩ := a
  obtain ⟨⟨sk', sx', se'⟩, ⟨pk', px', pe'⟩, ⟨ok', ox', oe'⟩⟩ := b
  unfold Ref5.tripleV
  dsimp only
  clear ha hb
  go_enter Tryz.func16, Tryz.ntmps16
  go_wp2_with fail
  refine (H1.out _).mono ?_
  rintro e w2 ⟨rfl, hb2⟩
  have HB2 := Lib.hid hb2
  clear hb2
  by_cases n1 : v1 = 0
  · subst n1
    obtain ⟨⟨a0, a1, a2, a3, a4, a5, a6, a7, a8⟩, b0, b1, b2, b3, b4, b5, b6, b7, b8⟩ := HX.out ⟨w2, HB2.out⟩
    dsimp only at a0 a1 a2 a3 a4 a5 a6 a7 a8 b0 b1 b2 b3 b4 b5 b6 b7 b8
    go_wp2_with fail
    refine (H2.out _).mono ?_
    rintro e w3 ⟨rfl, hb3⟩
    have HB3 := Lib.hid (bel_step HB2.out hb3)
    clear hb3 a0 a1 a2 a3 a4 a5 a6 a7 a8 b0 b1 b2 b3 b4 b5 b6 b7 b8
    by_cases n2 : v2 = 0
    · subst n2
      obtain ⟨⟨a0, a1, a2, a3, a4, a5, a6, a7, a8⟩, b0, b1, b2, b3, b4, b5, b6, b7, b8⟩ := HX.out ⟨w3, HB3.out⟩
      dsimp only at a0 a1 a2 a3 a4 a5 a6 a7 a8 b0 b1 b2 b3 b4 b5 b6 b7 b8
      have HV' : Hid (orI 0 0 v3 = v3) := Lib.hid rfl
      go_wp2_with fail
      refine (H3.out _).mono ?_
      rintro e w4 ⟨rfl, hb4⟩
      have HB4 := Lib.hid (bel_step HB3.out hb4)
      clear hb4 a0 a1 a2 a3 a4 a5 a6 a7 a8 b0 b1 b2 b3 b4 b5 b6 b7 b8
      go_wp2
      go_ret
      exact ⟨by rw [HV.out, HV'.out]; rfl, bel_step HBe.out HB4.out⟩
    · have hn : (v2 == 0) = false := by rw [beq_eq_false_iff_ne]; exact n2
      have HV' : Hid (orI 0 v2 v3 = v2) := Lib.hid (by unfold orI; rw [if_neg (by simp), if_pos n2])
      clear n2
      go_wp2
      go_ret
      exact ⟨by rw [HV.out, HV'.out]; rfl, bel_step HBe.out HB3.out⟩
  · have hn : (v1 == 0) = false := by rw [beq_eq_false_iff_ne]; exact n1
    have HV' : Hid (orI v1 v2 v3 = v1) := Lib.hid (by unfold orI; rw [if_pos n1])
    clear n1
    go_wp2
    go_ret
    exact ⟨by rw [HV.out, HV'.out]; rfl, bel_step HBe.out HB2.out⟩
end Go.Proofs.YtmcoloapiiakbaaGreatDoor.RefCmp
/-
  Whether triples are more than is looked at; whether all may be.
-/
set_option linter.unusedVariables false
set_option linter.unusedSimpArgs false
namespace Go.Proofs.YtmcoloapiiakbaaGreatDoor.Long
open Go.RowKit Go.Lib Go.Proofs.YtmcoloapiiakbaaGreatDoor.B Go.Proofs.YtmcoloapiiakbaaGreatDoor.Rd Go.Proofs.YtmcoloapiiakbaaGreatDoor.Utf Go.Proofs.YtmcoloapiiakbaaGreatDoor.TermPure Go.Proofs.YtmcoloapiiakbaaGreatDoor.LinesPure Go.Proofs.YtmcoloapiiakbaaGreatDoor.Tx Go.Proofs.YtmcoloapiiakbaaGreatDoor.Env Go.Proofs.YtmcoloapiiakbaaGreatDoor.Tri Go.Proofs.YtmcoloapiiakbaaGreatDoor.SortP Go.Proofs.YtmcoloapiiakbaaGreatDoor.Print Go.Proofs.YtmcoloapiiakbaaGreatDoor.Cmp

def wt (t : Triple) : Nat := 3 + t.s.text.length + t.s.extra.length + t.p.text.length + t.p.extra.length + t.o.text.length + t.o.extra.length
def total : List Triple → Nat
  | [] => 0
  | t :: l => wt t + total l
theorem total_append : ∀ a b : List Triple, total (a ++ b) = total a + total b
  | [], b => by simp [total]
  | t :: a, b => by rw [List.cons_append, total, total_append a b, total]; omega
theorem total_take (l : List Triple) (k : Nat) (h : k < l.length) : total (l.take (k + 1)) = total (l.take k) + wt l[k] := by
  rw [List.take_succ_eq_append_getElem h, total_append]
  simp [total]
theorem total_le (l : List Triple) (k : Nat) : total (l.take k) ≤ total l := by
  have := total_append (l.take k) (l.drop k)
  rw [List.take_append_drop] at this
  omega
theorem wt_le : ∀ (l : List Triple) (t : Triple), t ∈ l → wt t ≤ total l
  | x :: l, t, h => by
    rw [total]
    rcases List.mem_cons.1 h with rfl | h
    · omega
    · have := wt_le l t h; omega
theorem len_le : ∀ l : List Triple, 3 * l.length ≤ total l
  | [] => by simp [total]
  | t :: l => by
    have := len_le l
    rw [total, List.length_cons]
    unfold wt
    omega
theorem small_of {l : List Triple} (h : total l ≤ 9000) : ∀ t ∈ l, SmallT t := fun t ht => by
  have := wt_le l t ht
  unfold wt at this
  unfold SmallT
  omega
theorem fits_of {l : List Triple} (hf : ∀ t ∈ l, FitsW3 t) (h : total l ≤ 9000) : ∀ t ∈ l, Ref5.FitsT t := fun t ht => by
  have h1 := wt_le l t ht
  obtain ⟨⟨a1, _, _⟩, ⟨a2, _, _⟩, ⟨a3, _, _⟩⟩ := hf t ht
  unfold wt at h1
  exact ⟨⟨a1, by omega, by omega⟩, ⟨a2, by omega, by omega⟩, ⟨a3, by omega, by omega⟩⟩
/-- A row of triples that is read. -/
theorem row_fits {w : World} {ok : Nat → Prop} {l : List Triple} {v : Value} (h : triK.sl.M w ok l [v]) : ∀ t ∈ l, FitsW3 t := by
  obtain ⟨A, c, _, _, _, _, hrow⟩ := h
  intro t ht
  obtain ⟨k, hk, rfl⟩ := List.mem_iff_getElem.1 ht
  obtain ⟨_, _, _, h, _⟩ := Kd.row_at hrow hk
  exact h.2
/-- A triple's cells, where it lies. -/
structure C9 (w : World) (g o : Nat) (t : Triple) : Prop where
  c0 : w.cell? ⟨g, o, none⟩ = some (.int .i64 t.s.kind)
  c1 : w.cell? ⟨g, o + 1, none⟩ = some (.string (mkS t.s.text))
  c2 : w.cell? ⟨g, o + 2, none⟩ = some (.string (mkS t.s.extra))
  c3 : w.cell? ⟨g, o + 3, none⟩ = some (.int .i64 t.p.kind)
  c4 : w.cell? ⟨g, o + 4, none⟩ = some (.string (mkS t.p.text))
  c5 : w.cell? ⟨g, o + 5, none⟩ = some (.string (mkS t.p.extra))
  c6 : w.cell? ⟨g, o + 6, none⟩ = some (.int .i64 t.o.kind)
  c7 : w.cell? ⟨g, o + 7, none⟩ = some (.string (mkS t.o.text))
  c8 : w.cell? ⟨g, o + 8, none⟩ = some (.string (mkS t.o.extra))
theorem C9.of {w : World} {g o : Nat} {t : Triple} (h : ∀ j u, (triL t)[j]? = some u → w.cell? ⟨g, o + j, none⟩ = some u) : C9 w g o t :=
  ⟨h 0 _ rfl, h 1 _ rfl, h 2 _ rfl, h 3 _ rfl, h 4 _ rfl, h 5 _ rfl, h 6 _ rfl, h 7 _ rfl, h 8 _ rfl⟩
theorem C9.lt {w : World} {g o : Nat} {t : Triple} (h : C9 w g o t) : g < w.heap.size := World.block_lt_of_cell? w ⟨g, o, none⟩ h.c0
theorem C9.moved {w w' : World} {g o : Nat} {t : Triple} (h : C9 w g o t) (hm : w'.heap[g]? = w.heap[g]?) : C9 w' g o t :=
  have k : ∀ {i v}, w.cell? ⟨g, i, none⟩ = some v → w'.cell? ⟨g, i, none⟩ = some v := fun {i v} hc => (World.cell?_of_block (a := ⟨g, i, none⟩) hm).trans hc
  ⟨k h.c0, k h.c1, k h.c2, k h.c3, k h.c4, k h.c5, k h.c6, k h.c7, k h.c8⟩
theorem C9.below {w w' : World} {g o : Nat} {t : Triple} (h : C9 w g o t) (hb : Below w.heap.size w w') : C9 w' g o t := h.moved (hb.block g h.lt)
theorem C9.new (w : World) (t : Triple) : C9 (w.alloc (.cells (triL t).toArray 25)) w.heap.size 0 t := C9.of (fun j u hu => by
  rw [Nat.zero_add, World.cell?, Kd.heap_new]
  simpa using hu)
theorem C9.alloc {w : World} {g o : Nat} {t : Triple} (h : C9 w g o t) (x : Obj) : C9 (w.alloc x) g o t := h.below (bel_alloc (Below.refl _ _) x)
/-- Where a row that is read lies. -/
theorem row_cells {w : World} {l : List Triple} {A : Option Addr} {c : Nat} (h : triK.sl.M w (fun k => k < w.heap.size) l [.slice A l.length c]) (k : Nat) (hk : k < l.length) :
    ∃ b off, A = some ⟨b, off, none⟩ ∧ b < w.heap.size ∧ ∀ i (hi : i < l.length), C9 w b (off + i * 9) l[i] := by
  obtain ⟨A', c', he, hlc, _, hA, hrow⟩ := h
  obtain ⟨rfl, rfl⟩ : A = A' ∧ c = c' := by simpa using he
  obtain ⟨b, off, hAe, hb, _, hcells⟩ := Kd.row_addr hrow (by omega)
  refine ⟨b, off, hAe, hb, fun i hi => ?_⟩
  obtain ⟨cs, ⟨hcs, _⟩, hcell⟩ := hcells i hi
  subst hcs
  exact C9.of hcell
theorem sl_len {w : World} {ok : Nat → Prop} {l : List Triple} {A : Option Addr} {c : Nat} (h : triK.sl.M w ok l [.slice A l.length c]) : l.length ≤ 140737488355328 := by
  obtain ⟨_, _, _, _, ⟨h, _⟩, _⟩ := h
  exact h
set_option maxHeartbeats 3200000 in
set_option maxRecDepth 100000 in
theorem long_calls (l : List Triple) (A : Option Addr) (c : Nat) (w : World) (HL : triK.sl.M w (fun k => k < w.heap.size) l [.slice A l.length c]) :
    Calls Tryz.prog 13 #[.slice A l.length c] w fun e w' => e = .returned (.bool (decide (9000 < total l))) ∧ Below w.heap.size w w' := by
  have HF := Lib.hid (row_fits HL)
  have HR := Lib.hid (row_cells HL)
  have h47 := sl_len HL
  clear HL
  go_enter Tryz.func13, Tryz.ntmps13
  go_wp2
  go_loopw [3, 4] (fun vn vi wr => ∃ k n : Nat, k ≤ l.length ∧ vi = .int .i64 k ∧ vn = .int .i64 n ∧ n ≤ 2251799813685248 ∧ Hid (n = total (l.take k)) ∧ Hid (Below w.heap.size w wr)) (fun _ vi _ => l.length - (intOf vi).toNat)
  case atStart => exact ⟨0, 0, by omega, rfl, rfl, by omega, Lib.hid rfl, Lib.hid (Below.refl _ _)⟩
  case round =>
    obtain ⟨k, n, hk, rfl, rfl, hn, HT, HW⟩ := hrel
    by_cases hlt : k < l.length
    · have hd : decide (k < l.length) = true := decide_eq_true hlt
      have ik : (k : Int) < (l.length : Int) := by omega
      by_cases hl : 9000 < n
      · have hd2 : decide (n ≤ 9000) = false := decide_eq_false (by omega)
        have hd3 : decide (9000 < n) = true := decide_eq_true hl
        have HV : Hid (decide (9000 < total l) = true) := Lib.hid (decide_eq_true (by have := total_le l k; rw [← HT.out] at this; omega))
        go_wp2
        go_ret
        exact ⟨by rw [HV.out]; rfl, HW.out⟩
      · have hd2 : decide (n ≤ 9000) = true := decide_eq_true (by omega)
        obtain ⟨b, off, rfl, hb, hcells⟩ := HR.out k hlt
        obtain ⟨z0, z1, z2, z3, z4, z5, z6, z7, z8⟩ := (hcells k hlt).below HW.out
        have HT2 := Lib.hid (total_take l k hlt)
        have hf := HF.out l[k] (List.getElem_mem hlt)
        clear hcells
        obtain ⟨t, ht⟩ : ∃ t, t = l[k] := ⟨_, rfl⟩
        rw [← ht] at z0 z1 z2 z3 z4 z5 z6 z7 z8 HT2 hf
        clear ht
        obtain ⟨⟨sk, sx, se⟩, ⟨pk, px, pe⟩, ⟨ok, ox, oe⟩⟩ := t
        obtain ⟨⟨_, a1, a2⟩, ⟨_, a3, a4⟩, ⟨_, a5, a6⟩⟩ := hf
        have HWt : Hid (wt ⟨⟨sk, sx, se⟩, ⟨pk, px, pe⟩, ⟨ok, ox, oe⟩⟩ = 3 + sx.length + se.length + px.length + pe.length + ox.length + oe.length) := Lib.hid rfl
        dsimp only at z0 z1 z2 z3 z4 z5 z6 z7 z8 a1 a2 a3 a4 a5 a6
        have y1 := mkS_size sx
        have y2 := mkS_size se
        have y3 := mkS_size px
        have y4 := mkS_size pe
        have y5 := mkS_size ox
        have y6 := mkS_size oe
        go_wp2_with fail
        go_quiet (fail)
        go_wp2
        go_roundw
        case rel => exact ⟨k + 1, n + (3 + sx.length + se.length + px.length + pe.length + ox.length + oe.length), by omega, by go_num, by go_num, by omega, Lib.hid (by rw [HT2.out, HT.out, HWt.out]), Lib.hid (bel_drewN HW.out _)⟩
        case measure => simp [intOf]; omega
    · have hd : decide (k < l.length) = false := decide_eq_false hlt
      obtain rfl : k = l.length := by omega
      have HV : Hid (decide (9000 < total l) = decide (9000 < n)) := Lib.hid (by rw [HT.out, List.take_length])
      go_wp2
      go_ret
      exact ⟨by rw [HV.out]; first | rfl | (congr 2; simp; omega) | simp, HW.out⟩
set_option maxHeartbeats 3200000 in
set_option maxRecDepth 100000 in
theorem may_calls (l : List Triple) (A : Option Addr) (c : Nat) (w : World) (he : Env w) (HL : triK.sl.M w (fun k => k < w.heap.size) l [.slice A l.length c]) (hs : total l ≤ 9000) :
    Calls Tryz.prog 14 #[.slice A l.length c] w fun e w' => e = .returned (.bool (l.all isTriple)) ∧ Below w.heap.size w w' := by
  have HF := Lib.hid (fits_of (row_fits HL) hs)
  have HR := Lib.hid (row_cells HL)
  have HE := Lib.hid he
  have h47 := sl_len HL
  clear HL he
  go_enter Tryz.func14, Tryz.ntmps14
  go_wp2
  go_loopw [3] (fun vi wr => ∃ k : Nat, k ≤ l.length ∧ vi = .int .i64 k ∧ Hid ((l.take k).all isTriple = true) ∧ Hid (Below w.heap.size w wr)) (fun vi _ => l.length - (intOf vi).toNat)
  case atStart => exact ⟨0, by omega, rfl, Lib.hid rfl, Lib.hid (Below.refl _ _)⟩
  case round =>
    obtain ⟨k, hk, rfl, HA, HW⟩ := hrel
    by_cases hlt : k < l.length
    · have hd : decide (k < l.length) = true := decide_eq_true hlt
      have ik : (k : Int) < (l.length : Int) := by omega
      obtain ⟨b, off, rfl, hb, hcells⟩ := HR.out k hlt
      obtain ⟨z0, z1, z2, z3, z4, z5, z6, z7, z8⟩ := (hcells k hlt).below HW.out
      have hf := HF.out l[k] (List.getElem_mem hlt)
      have HT : Hid ((l.take (k + 1)).all isTriple = ((l.take k).all isTriple && isTriple l[k])) := Lib.hid (by rw [List.take_succ_eq_append_getElem hlt, List.all_append]; simp)
      have HT2 : Hid (isTriple l[k] = false → l.all isTriple = false) := Lib.hid (fun h => by
        rw [← Bool.not_eq_true, List.all_eq_true]
        intro h2
        rw [h2 _ (List.getElem_mem hlt)] at h
        cases h)
      clear hcells
      obtain ⟨t, ht⟩ : ∃ t, t = l[k] := ⟨_, rfl⟩
      rw [← ht] at z0 z1 z2 z3 z4 z5 z6 z7 z8 HT HT2 hf
      clear ht
      have HI := Lib.hid (fun w he => Ref5.is5_calls t hf w he)
      obtain ⟨r, hr⟩ : ∃ r, r = isTriple t := ⟨_, rfl⟩
      rw [← hr] at HT HT2 HI
      clear hr hf
      obtain ⟨⟨sk, sx, se⟩, ⟨pk, px, pe⟩, ⟨ok, ox, oe⟩⟩ := t
      unfold Ref5.tripleV at HI
      dsimp only at z0 z1 z2 z3 z4 z5 z6 z7 z8 HI
      have HE1 := Lib.hid (HE.out.below HW.out)
      cases r
      · go_wp2_with fail
        refine (HI.out _ HE1.out).mono ?_
        rintro e w2 ⟨rfl, hb2⟩
        have HW2 := Lib.hid (bel_step HW.out hb2)
        clear hb2
        go_wp2
        go_ret
        exact ⟨by rw [HT2.out trivial]; rfl, HW2.out⟩
      · go_wp2_with fail
        refine (HI.out _ HE1.out).mono ?_
        rintro e w2 ⟨rfl, hb2⟩
        have HW2 := Lib.hid (bel_step HW.out hb2)
        clear hb2
        go_wp2
        go_roundw
        case rel => exact ⟨k + 1, by omega, by go_num, Lib.hid (by rw [HT.out, HA.out]; rfl), HW2⟩
        case measure => simp [intOf]; omega
    · have hd : decide (k < l.length) = false := decide_eq_false hlt
      obtain rfl : k = l.length := by omega
      have HV : Hid (l.all isTriple = true) := Lib.hid (by have := HA.out; rwa [List.take_length] at this)
      go_wp2
      go_ret
      exact ⟨by rw [HV.out]; rfl, HW.out⟩
end Go.Proofs.YtmcoloapiiakbaaGreatDoor.Long
/-
  What the program's reader of lines answers: IRIs, literals.
-/
set_option linter.unusedVariables false
set_option linter.unusedSimpArgs false
namespace Go.Proofs.YtmcoloapiiakbaaGreatDoor.Prg
open Go.RowKit Go.Lib Go.Proofs.YtmcoloapiiakbaaGreatDoor.B Go.Proofs.YtmcoloapiiakbaaGreatDoor.Rd Go.Proofs.YtmcoloapiiakbaaGreatDoor.Utf Go.Proofs.YtmcoloapiiakbaaGreatDoor.TermPure Go.Proofs.YtmcoloapiiakbaaGreatDoor.LinesPure Go.Proofs.YtmcoloapiiakbaaGreatDoor.Tx Go.Proofs.YtmcoloapiiakbaaGreatDoor.Env Go.Proofs.YtmcoloapiiakbaaGreatDoor.Bld Go.Proofs.YtmcoloapiiakbaaGreatDoor.Tc
open Go.Proofs.YtmcoloapiiakbaaGreatDoor.Ref5 (termV Fits tripleV FitsT up_len run_fst_len run_snd_len low_len zeroTr T9 oneV FitsO Next)

set_option maxHeartbeats 1600000 in
theorem until_bad_calls (rb : Nat) (l : List UInt8) (stop : UInt8) (lit : Bool) (w : World) (h : At w rb l true) :
    Calls Tryz.prog 81 #[.pointer (some ⟨rb, 0, none⟩), .int .i32 (stop.toNat : Int), .bool lit] w fun e w' => (∃ o, e = .returned (.string (mkS o))) ∧ Step w w' rb l true := by
  have hlt := h.lt
  have HS0 := Lib.hid ((Step.refl h).alloc (.cells #[.pointer none, .slice none 0 0] 65))
  have HB0 := Lib.hid (Bld.new w)
  obtain ⟨c0, c1, f0, f1, _⟩ := h
  go_enter Tryz.func81, Tryz.ntmps81
  go_wp2
  go_step3
  go_wp2
  go_step3
  go_wp2
  go_loopg [] 0 (fun n wr => wr = w.alloc (.cells #[.pointer none, .slice none 0 0] 65))
  case atStart => rfl
  case round =>
    subst hrel
    go_wp2_with fail
    refine (string_calls _ _ [] _ HB0.out (by simp)).mono ?_
    rintro e w2 ⟨rfl, _, hb2⟩
    have HS2 := Lib.hid (HS0.out.belowB hb2 hlt)
    clear hb2
    go_wp2
    rw [Exit.noGoto_ret]
    go_ret
    exact ⟨⟨_, rfl⟩, HS2.out⟩
set_option maxHeartbeats 1600000 in
theorem iri_calls (rb : Nat) (l : List UInt8) (hv : validD l = true) (w : World) (he : Env w) (hrb : lowB ≤ rb) (h : At w rb l false) :
    Calls Tryz.prog 54 #[.pointer (some ⟨rb, 0, none⟩)] w fun e w' => UntPost w rb (if ([60] : List UInt8).isPrefixOf l = true then up 62 false false (l.drop 1) else none) e w' := by
  have HM := Lib.hid (must_calls rb l [60] w h)
  have HE := Lib.hid he
  have HV := Lib.hid (valid_drop [60] (by decide) l)
  have HVl := Lib.hid hv
  clear h he hv
  cases hp : ([60] : List UInt8).isPrefixOf l with
  | true =>
    rw [hp] at HM
    simp only [if_true, Bool.not_true, List.length_cons, List.length_nil, Nat.zero_add] at HM
    have HVq := Lib.hid (HV.out hp HVl.out)
    simp only [List.length_cons, List.length_nil, Nat.zero_add] at HVq
    rw [if_pos rfl]
    clear hp HV
    generalize l.drop 1 = q at *
    go_enter Tryz.func54, Tryz.ntmps54
    go_wp2_with fail
    refine HM.out.mono ?_
    rintro e w1 ⟨rfl, hs1⟩
    have HS1 := Lib.hid hs1
    have HE1 := Lib.hid (HE.out.step hs1 hrb)
    clear hs1 HM
    go_wp2_with fail
    refine (until_calls rb q 62 (by decide) (by decide) false HVq.out _ HE1.out hrb HS1.out.at').mono ?_
    intro e w2 hp
    cases hu : up 62 false false q with
    | none =>
      rw [hu] at hp
      obtain ⟨o, s, rfl, hs2⟩ := hp
      have HS2 := Lib.hid (HS1.out.trans hs2)
      have HU := Lib.hid hu
      clear hs2 hu
      go_wp2
      go_ret
      rw [HU.out]
      exact ⟨_, _, rfl, HS2.out⟩
    | some p =>
      obtain ⟨o, r⟩ := p
      rw [hu] at hp
      obtain ⟨rfl, hs2, hvr⟩ := hp
      have HS2 := Lib.hid (HS1.out.trans hs2)
      have HU := Lib.hid hu
      have HVr := Lib.hid hvr
      clear hs2 hu hvr
      go_wp2
      go_ret
      rw [HU.out]
      exact ⟨rfl, HS2.out, HVr.out⟩
  | false =>
    rw [hp] at HM
    simp only [Bool.false_eq_true, if_false, Bool.not_false] at HM
    rw [if_neg (by decide)]
    clear hp HV
    go_enter Tryz.func54, Tryz.ntmps54
    go_wp2_with fail
    refine HM.out.mono ?_
    rintro e w1 ⟨rfl, hs1⟩
    have HS1 := Lib.hid hs1
    clear hs1 HM
    go_wp2_with fail
    refine (until_bad_calls rb l 62 false _ HS1.out.at').mono ?_
    rintro e w2 ⟨⟨o, rfl⟩, hs2⟩
    have HS2 := Lib.hid (HS1.out.trans hs2)
    clear hs2
    go_wp2
    go_ret
    exact ⟨_, _, rfl, HS2.out⟩
/-- What the program's reader tells of a term. -/
def PTermPost (w : World) (rb : Nat) (r : Option (Term × List UInt8)) (e : Ending) (w' : World) : Prop := match r with
  | none => (∃ t : Term, e = .returned (termV t)) ∧ ∃ s, Step w w' rb s true
  | some (t, q) => (e = .returned (termV t) ∧ Fits t) ∧ Step w w' rb q false ∧ validD q = true
theorem toLower_calls (u : List UInt8) (hu : u.length ≤ 140737488355328) (ha : ∀ b ∈ u, b.toNat < 128) (w : World) :
    Calls Tryz.prog 84 #[.string (mkS u)] w fun e w' => e = .returned (.string (mkS (toLowerA u))) ∧ Below w.heap.size w w' :=
  Tryz.strings_ToLower_ascii (mkS u) w (by rw [mkS_size]; exact hu) (fun j b hb => ha b (List.mem_of_getElem? hb))
set_option maxRecDepth 100000 in
set_option maxHeartbeats 6400000 in
theorem literal_calls (rb : Nat) (l : List UInt8) (hv : validD l = true) (w : World) (he : Env w) (hrb : lowB ≤ rb) (h : At w rb l false) :
    Calls Tryz.prog 58 #[.pointer (some ⟨rb, 0, none⟩)] w fun e w' => PTermPost w rb (literal false l) e w' := by
  have hlt := h.lt
  have hlen := h.len
  have HS0 := Lib.hid ((Step.refl h).alloc (.cells #[.int .i64 0, .string (mkS []), .string (mkS [])] 23))
  have T0 := Lib.hid (TC.new w zeroT)
  have HE0 := Lib.hid (he.below (bel_alloc (Below.refl _ _) (.cells #[.int .i64 0, .string (mkS []), .string (mkS [])] 23)))
  have HVl := Lib.hid hv
  have hn1 : ¬ w.heap.size = rb := by omega
  have HL : Hid (literal false l = match up 34 true true l with
  | none => none
  | some (t, r) =>
    if [64].isPrefixOf r = true then some (⟨4, t, toLowerA (run true (r.drop 1)).1⟩, (run true (r.drop 1)).2)
    else if [94, 94].isPrefixOf r = true then
      if [60].isPrefixOf (r.drop 2) = true then (up 62 false false (r.drop 3)).map fun x => (⟨5, t, x.1⟩, x.2)
      else if false = true then some (⟨3, t, []⟩, r) else none
    else some (⟨3, t, []⟩, r)) := Lib.hid rfl
  clear h he hv
  go_enter Tryz.func58, Tryz.ntmps58
  go_wp2_with fail
  refine (until_calls rb l 34 (by decide) (by decide) true HVl.out _ HE0.out hrb HS0.out.at').mono ?_
  intro e w1 hp
  have UL := up_len 34 true true l.length l (Nat.le_refl _)
  cases hu : up 34 true true l with
  | none =>
    rw [hu] at hp HL
    obtain ⟨o, s, rfl, hs1⟩ := hp
    have HS1 := Lib.hid (HS0.out.trans hs1)
    have T1 := Lib.hid (T0.out.grown hs1.grown hn1)
    have hz1 : w.heap.size < w1.heap.size := T1.out.lt
    have hn2 : ¬ w1.heap.size = rb := by omega
    have hn3 : ¬ w1.heap.size = w.heap.size := by omega
    have hn4 : ¬ w.heap.size = w1.heap.size := by omega
    have HS2 := Lib.hid (HS1.out.alloc (.cells #[.int .i64 3, .string (mkS o), .string (mkS [])] 23))
    have T2 := Lib.hid (T1.out.alloc (.cells #[.int .i64 3, .string (mkS o), .string (mkS [])] 23))
    have T3 := Lib.hid (TC.new w1 ⟨3, o, []⟩)
    clear hs1 hu UL
    go_wp2_with fail
    refine (is_bad_calls rb s [64] _ HS2.out.at').mono ?_
    rintro e w2 ⟨rfl, rfl⟩
    go_wp2_with fail
    refine (is_bad_calls rb s [94, 94] _ HS2.out.at').mono ?_
    rintro e w2 ⟨rfl, rfl⟩
    obtain ⟨m0, m1, m2, m3, m4, m5⟩ := T1.out
    simp only [Nat.zero_add] at m1 m2 m4 m5
    dsimp only [zeroT] at *
    go_wp2
    refine bodyPost_ret (v := termV ⟨3, o, []⟩) (by simp [results, Tryz.results58, go_sem, hn1, hn2, hn3, hn4, hz1, m0, m1, m2, termV, mkS_nil]) rfl ?_
    rw [HL.out]
    refine ⟨⟨_, rfl⟩, s, ?_⟩
    clear m0 m1 m2 m3 m4 m5
    repeat first | exact HS2.out | exact HS1.out | refine Step.alloc ?_ _ | refine Step.other ?_ (by omega) (by omega) _
  | some p =>
    obtain ⟨t, r⟩ := p
    have hlen2 := UL t r hu
    rw [hu] at hp HL
    obtain ⟨rfl, hs1, hvr⟩ := hp
    dsimp only at HL
    have HS1 := Lib.hid (HS0.out.trans hs1)
    have T1 := Lib.hid (T0.out.grown hs1.grown hn1)
    have HE1 := Lib.hid (HE0.out.step hs1 hrb)
    have HV1 := Lib.hid hvr
    have hz1 : w.heap.size < w1.heap.size := T1.out.lt
    have hn2 : ¬ w1.heap.size = rb := by omega
    have hn3 : ¬ w1.heap.size = w.heap.size := by omega
    have hn4 : ¬ w.heap.size = w1.heap.size := by omega
    have HS2 := Lib.hid (HS1.out.alloc (.cells #[.int .i64 3, .string (mkS t), .string (mkS [])] 23))
    have HE2 := Lib.hid (HE1.out.below (bel_alloc (Below.refl _ _) (.cells #[.int .i64 3, .string (mkS t), .string (mkS [])] 23)))
    have T2 := Lib.hid (T1.out.alloc (.cells #[.int .i64 3, .string (mkS t), .string (mkS [])] 23))
    have T3 := Lib.hid (TC.new w1 ⟨3, t, []⟩)
    have ML := Lib.hid (valid_drop [64] (by decide) r)
    have MC := Lib.hid (valid_drop [94, 94] (by decide) r)
    clear hs1 hu UL hvr
    go_wp2_with fail
    refine (is_calls rb r [64] _ HS2.out.at').mono ?_
    rintro e w2 ⟨rfl, hs2⟩
    have HS3 := Lib.hid (HS2.out.trans hs2)
    have HE3 := Lib.hid (HE2.out.step hs2 hrb)
    have U2 := Lib.hid (T2.out.grown hs2.grown hn1)
    have U3 := Lib.hid (T3.out.grown hs2.grown hn2)
    have hz2 : w1.heap.size < w2.heap.size := U3.out.lt
    clear hs2
    cases c1 : ([64] : List UInt8).isPrefixOf r with
    | true =>
      have HD := Lib.hid (HL.out.trans (if_pos c1))
      have HVq := Lib.hid (ML.out c1 HV1.out)
      rw [c1] at HS3
      simp only [if_true, List.length_cons, List.length_nil, Nat.zero_add] at HS3 HVq
      have hql : (r.drop 1).length ≤ r.length := by simp
      clear c1 HL ML MC
      generalize r.drop 1 = q at *
      obtain ⟨k0, k1, k2, k3, k4, k5⟩ := U3.out
      simp only [Nat.zero_add] at k1 k2 k4 k5
      dsimp only [zeroT] at *
      go_wp2_with fail
      have HS4 := Lib.hid (HS3.out.other (g := w1.heap.size) (j := 0) (by omega) hn2 (.int .i64 4))
      have X2 := Lib.hid (U2.out.other (g' := w1.heap.size) (j := 0) hn4 (.int .i64 4))
      refine (while_calls rb q _ true tells_dash _ HS4.out.at').mono ?_
      rintro e w3 ⟨rfl, hs5⟩
      have HS5 := Lib.hid (HS4.out.trans hs5)
      have Y2 := Lib.hid (X2.out.grown hs5.grown hn1)
      have Z3 : Hid (TC w3 w1.heap.size 0 ⟨4, t, []⟩) := Lib.hid ((U3.out.setK 4).grown hs5.grown hn2)
      have hz3 : w1.heap.size < w3.heap.size := Z3.out.lt
      have hrl := run_fst_len true q
      have hra := run_ascii true q
      have HVr := Lib.hid (run_valid true q HVq.out)
      generalize run true q = pr at *
      obtain ⟨ru, rq⟩ := pr
      dsimp only at *
      have HA := Lib.hid hra
      clear k0 k1 k2 k3 k4 k5
      clear hs5 hra
      go_wp2_with fail
      refine (toLower_calls ru (by omega) HA.out _).mono ?_
      rintro e w4 ⟨rfl, hb6⟩
      have HS6 := Lib.hid (HS5.out.below hb6)
      have V2 := Lib.hid (Y2.out.below hb6)
      have V3 := Lib.hid (Z3.out.below hb6)
      have hll := low_len ru
      generalize toLowerA ru = lo at *
      clear hb6
      obtain ⟨m0, m1, m2, m3, m4, m5⟩ := V2.out
      simp only [Nat.zero_add] at m1 m2 m4 m5
      dsimp only [zeroT] at *
      obtain ⟨k0, k1, k2, k3, k4, k5⟩ := V3.out
      simp only [Nat.zero_add] at k1 k2 k4 k5
      dsimp only [zeroT] at *
      go_wp2
      refine bodyPost_ret (v := termV ⟨4, t, lo⟩) (by simp [results, Tryz.results58, go_sem, hn1, hn2, hn3, hn4, hz1, m0, m1, m2, termV, mkS_nil]) rfl ?_
      rw [HD.out]
      refine ⟨⟨rfl, by simp, by simp; omega, by simp; omega⟩, ?_, HVr.out⟩
      clear m0 m1 m2 m3 m4 m5
      clear k0 k1 k2 k3 k4 k5
      repeat first | exact HS6.out | refine Step.alloc ?_ _ | refine Step.other ?_ (by omega) (by omega) _
    | false =>
      have HD := Lib.hid (HL.out.trans (if_neg (by rw [c1]; decide)))
      rw [c1] at HS3
      simp only [Bool.false_eq_true, if_false] at HS3
      clear c1 HL ML
      go_wp2_with fail
      refine (is_calls rb r [94, 94] _ HS3.out.at').mono ?_
      rintro e w3 ⟨rfl, hs4⟩
      have HS4 := Lib.hid (HS3.out.trans hs4)
      have HE4 := Lib.hid (HE3.out.step hs4 hrb)
      have X2 := Lib.hid (U2.out.grown hs4.grown hn1)
      have X3 := Lib.hid (U3.out.grown hs4.grown hn2)
      have hz3 : w1.heap.size < w3.heap.size := X3.out.lt
      clear hs4
      cases c2 : ([94, 94] : List UInt8).isPrefixOf r with
      | true =>
        have HD2 := Lib.hid (HD.out.trans (if_pos c2))
        have HVq := Lib.hid (MC.out c2 HV1.out)
        rw [c2] at HS4
        simp only [if_true, List.length_cons, List.length_nil, Nat.zero_add, Nat.reduceAdd] at HS4 HVq
        rw [show r.drop 3 = (r.drop 2).drop 1 by rw [List.drop_drop]] at HD2
        have hql : (r.drop 2).length ≤ r.length := by simp
        clear c2 HD MC
        generalize r.drop 2 = q at *
        obtain ⟨k0, k1, k2, k3, k4, k5⟩ := X3.out
        simp only [Nat.zero_add] at k1 k2 k4 k5
        dsimp only [zeroT] at *
        go_wp2_with fail
        have HS5 := Lib.hid (HS4.out.other (g := w1.heap.size) (j := 0) (by omega) hn2 (.int .i64 5))
        have HE5 := Lib.hid (HE4.out.set (g := w1.heap.size) (j := 0) (by omega) (.int .i64 5))
        have Y2 := Lib.hid (X2.out.other (g' := w1.heap.size) (j := 0) hn4 (.int .i64 5))
        have Y3 : Hid (TC (w3.setCell ⟨w1.heap.size, 0, none⟩ (.int .i64 5)) w1.heap.size 0 ⟨5, t, []⟩) := Lib.hid (X3.out.setK 5)
        refine (iri_calls rb q HVq.out _ HE5.out hrb HS5.out.at').mono ?_
        intro e w4 hp
        have HQ : Hid (literal false l = (if ([60] : List UInt8).isPrefixOf q = true then up 62 false false (q.drop 1) else none).map fun x => (⟨5, t, x.1⟩, x.2)) := Lib.hid (by
          rw [HD2.out]
          split
          · rfl
          · rfl)
        have UL2 := up_len 62 false false (q.drop 1).length (q.drop 1) (Nat.le_refl _)
        have hU : ∀ o r', (if ([60] : List UInt8).isPrefixOf q = true then up 62 false false (q.drop 1) else none) = some (o, r') → o.length + r'.length ≤ q.length := fun o r' h => by
          split at h
          · have := UL2 o r' h
            simp at this
            omega
          · cases h
        clear k0 k1 k2 k3 k4 k5
        clear HD2 UL2
        generalize (if ([60] : List UInt8).isPrefixOf q = true then up 62 false false (q.drop 1) else none) = R at *
        cases R with
        | none =>
          obtain ⟨o, s, rfl, hs6⟩ := hp
          have HS6 := Lib.hid (HS5.out.trans hs6)
          have W2 := Lib.hid (Y2.out.grown hs6.grown hn1)
          have W3 := Lib.hid (Y3.out.grown hs6.grown hn2)
          have hz4 : w1.heap.size < w4.heap.size := W3.out.lt
          clear hs6
          clear hU
          obtain ⟨m0, m1, m2, m3, m4, m5⟩ := W2.out
          simp only [Nat.zero_add] at m1 m2 m4 m5
          dsimp only [zeroT] at *
          obtain ⟨k0, k1, k2, k3, k4, k5⟩ := W3.out
          simp only [Nat.zero_add] at k1 k2 k4 k5
          dsimp only [zeroT] at *
          go_wp2
          refine bodyPost_ret (v := termV ⟨5, t, o⟩) (by simp [results, Tryz.results58, go_sem, hn1, hn2, hn3, hn4, hz1, m0, m1, m2, termV, mkS_nil]) rfl ?_
          rw [HQ.out]
          refine ⟨⟨_, rfl⟩, s, ?_⟩
          clear m0 m1 m2 m3 m4 m5
          clear k0 k1 k2 k3 k4 k5
          repeat first | exact HS6.out | refine Step.alloc ?_ _ | refine Step.other ?_ (by omega) (by omega) _
        | some p2 =>
          obtain ⟨o, r'⟩ := p2
          obtain ⟨rfl, hs6, hv6⟩ := hp
          have hol := hU o r' rfl
          have HV6 := Lib.hid hv6
          have HS6 := Lib.hid (HS5.out.trans hs6)
          have W2 := Lib.hid (Y2.out.grown hs6.grown hn1)
          have W3 := Lib.hid (Y3.out.grown hs6.grown hn2)
          have hz4 : w1.heap.size < w4.heap.size := W3.out.lt
          clear hs6
          clear hU hv6
          obtain ⟨m0, m1, m2, m3, m4, m5⟩ := W2.out
          simp only [Nat.zero_add] at m1 m2 m4 m5
          dsimp only [zeroT] at *
          obtain ⟨k0, k1, k2, k3, k4, k5⟩ := W3.out
          simp only [Nat.zero_add] at k1 k2 k4 k5
          dsimp only [zeroT] at *
          go_wp2
          refine bodyPost_ret (v := termV ⟨5, t, o⟩) (by simp [results, Tryz.results58, go_sem, hn1, hn2, hn3, hn4, hz1, m0, m1, m2, termV, mkS_nil]) rfl ?_
          rw [HQ.out]
          refine ⟨⟨rfl, by simp, by simp; omega, by simp; omega⟩, ?_, HV6.out⟩
          clear m0 m1 m2 m3 m4 m5
          clear k0 k1 k2 k3 k4 k5
          repeat first | exact HS6.out | refine Step.alloc ?_ _ | refine Step.other ?_ (by omega) (by omega) _
      | false =>
        have HD2 := Lib.hid (HD.out.trans (if_neg (by rw [c2]; decide)))
        rw [c2] at HS4
        simp only [Bool.false_eq_true, if_false] at HS4
        clear c2 HD MC
        obtain ⟨m0, m1, m2, m3, m4, m5⟩ := X2.out
        simp only [Nat.zero_add] at m1 m2 m4 m5
        dsimp only [zeroT] at *
        obtain ⟨k0, k1, k2, k3, k4, k5⟩ := X3.out
        simp only [Nat.zero_add] at k1 k2 k4 k5
        dsimp only [zeroT] at *
        go_wp2
        refine bodyPost_ret (v := termV ⟨3, t, []⟩) (by simp [results, Tryz.results58, go_sem, hn1, hn2, hn3, hn4, hz1, m0, m1, m2, termV, mkS_nil]) rfl ?_
        rw [HD2.out]
        refine ⟨⟨rfl, by simp, by simp; omega, by simp⟩, ?_, HV1.out⟩
        clear m0 m1 m2 m3 m4 m5
        clear k0 k1 k2 k3 k4 k5
        repeat first | exact HS4.out | refine Step.alloc ?_ _ | refine Step.other ?_ (by omega) (by omega) _
end Go.Proofs.YtmcoloapiiakbaaGreatDoor.Prg
/-
  Which terms may be, the program's way: runes, IRIs, labels.
-/
set_option linter.unusedVariables false
set_option linter.unusedSimpArgs false
namespace Go.Proofs.YtmcoloapiiakbaaGreatDoor.Prg
open Go.RowKit Go.Lib Go.Proofs.YtmcoloapiiakbaaGreatDoor.B Go.Proofs.YtmcoloapiiakbaaGreatDoor.Rd Go.Proofs.YtmcoloapiiakbaaGreatDoor.Utf Go.Proofs.YtmcoloapiiakbaaGreatDoor.TermPure Go.Proofs.YtmcoloapiiakbaaGreatDoor.LinesPure Go.Proofs.YtmcoloapiiakbaaGreatDoor.Tx Go.Proofs.YtmcoloapiiakbaaGreatDoor.Env Go.Proofs.YtmcoloapiiakbaaGreatDoor.Bld Go.Proofs.YtmcoloapiiakbaaGreatDoor.Tc

/-- A function value that tells of runes what p tells, in every later world. -/
structure Holds (w : World) (g : Nat) (lb : Array Value) (p : Nat → Bool) : Prop where
  enters : ∀ args w, (callFunc g args).run Tryz.prog w = .ok (.enter g args) w
  tells : PredGrows Tryz.prog g lb p w
theorem Holds.later {w W : World} {g : Nat} {lb : Array Value} {p : Nat → Bool} (h : Holds w g lb p) (hb : Below w.heap.size w W) : Holds W g lb p := ⟨h.enters, h.tells.later hb⟩
set_option maxHeartbeats 800000 in
theorem not_calls (B g c : Nat) (lb : Array Value) (p : Nat → Bool) (hc : c ≤ 1114111) (w0 w : World) (hp : Holds w0 g lb p) (hb : Below w0.heap.size w0 w) (hcell : w.cell? ⟨B, 0, none⟩ = some (.func (.func g) #[] lb)) :
    Calls Tryz.prog 119 #[.int .i32 (c : Int), .pointer (some ⟨B, 0, none⟩)] w fun e w' => e = .returned (.bool (!p c)) ∧ Below w.heap.size w w' := by
  have hC := hp.tells w c hc hb
  have heg := hp.enters
  have HC := Lib.hid hC
  clear hC hp hb
  go_enter Tryz.func119, Tryz.ntmps119
  go_wp2_with fail
  refine HC.out.mono ?_
  rintro e w1 ⟨rfl, hb1⟩
  have HB := Lib.hid hb1
  obtain ⟨q, hq⟩ : ∃ q, p c = q := ⟨_, rfl⟩
  have HQ := Lib.hid hq
  rw [hq]
  clear hb1 hq
  cases q
  all_goals go_wp2
  all_goals go_ret
  all_goals exact ⟨ret_bool (by rw [HQ.out]; rfl), HB.out⟩
theorem all_not (p : Nat → Bool) (l : List Nat) : (!l.any fun c => !p c) = l.all p := by
  induction l with
  | nil => rfl
  | cons c l ih => rw [List.any_cons, List.all_cons, ← ih]; cases p c <;> rfl
set_option maxHeartbeats 800000 in
theorem all_calls (s : List UInt8) (g : Nat) (lb : Array Value) (p : Nat → Bool) (w : World) (hp : Holds w g lb p) :
    Calls Tryz.prog 90 #[.string (mkS s), .func (.func g) #[] lb] w fun e w' => e = .returned (.bool ((runes s).all p)) ∧ Below w.heap.size w w' := by
  have hW : Below w.heap.size w (w.alloc (.cells #[.func (.func g) #[] lb] 85)) := bel_alloc (Below.refl _ _) _
  have hcell : (w.alloc (.cells #[.func (.func g) #[] lb] 85)).cell? ⟨w.heap.size, 0, none⟩ = some (.func (.func g) #[] lb) := by
    unfold World.cell?
    dsimp only
    rw [Kd.heap_new]
    rfl
  have hC : Calls Tryz.prog 118 #[.string (mkS s), .func (.func 119) #[] #[.pointer (some ⟨w.heap.size, 0, none⟩)]] (w.alloc (.cells #[.func (.func g) #[] lb] 85)) fun e w' => e = .returned (.bool ((runes s).any fun c => !p c)) ∧ Below w.heap.size w w' := by
    refine (Tryz.strings_ContainsFunc_grows 119 #[.pointer (some ⟨w.heap.size, 0, none⟩)] (enters_of Tryz.func119 (by kernel_rfl) rfl) (fun c => !p c) (mkS s) _ ?_).mono ?_
    · intro W x hx hb
      have hb' : Below w.heap.size w W := hW.trans (hb.mono (by simp))
      exact not_calls w.heap.size g x lb p hx w W hp hb' ((hb.cell (p := ⟨w.heap.size, 0, none⟩) (by simp)).trans hcell)
    · rintro e w' ⟨h1, h2⟩
      exact ⟨by rw [h1, contains_any], hW.trans (h2.mono (by simp))⟩
  have HC := Lib.hid hC
  have HQ := Lib.hid (all_not p (runes s))
  clear hC hW hcell hp
  obtain ⟨q, hq⟩ : ∃ q, ((runes s).any fun c => !p c) = q := ⟨_, rfl⟩
  rw [hq] at HC HQ
  clear hq
  go_enter Tryz.func90, Tryz.ntmps90
  go_wp2_with fail
  refine HC.out.mono ?_
  rintro e w1 ⟨rfl, hb1⟩
  have HB := Lib.hid hb1
  clear hb1
  cases q
  all_goals go_wp2
  all_goals go_ret
  all_goals exact ⟨ret_bool (by rw [← HQ.out]; rfl), HB.out⟩
theorem small1_calls (c : Nat) (w : World) :
    Calls Tryz.prog 97 #[.int .i32 (c : Int)] w fun e w' => e = .returned (.bool (decide (97 ≤ c) && decide (c ≤ 122))) ∧ w = w' := by
  go_enter Tryz.func97, Tryz.ntmps97
  go_wp2
  all_goals go_ret
  all_goals exact ⟨ret_bool (by rw [Bool.eq_iff_iff]; simp; omega), rfl⟩
theorem digit1_calls (c : Nat) (w : World) :
    Calls Tryz.prog 94 #[.int .i32 (c : Int)] w fun e w' => e = .returned (.bool (decide (48 ≤ c) && decide (c ≤ 57))) ∧ w = w' := by
  go_enter Tryz.func94, Tryz.ntmps94
  go_wp2
  all_goals go_ret
  all_goals exact ⟨ret_bool (by rw [Bool.eq_iff_iff]; simp; omega), rfl⟩
theorem letter1_calls (c : Nat) (w : World) :
    Calls Tryz.prog 93 #[.int .i32 (c : Int)] w fun e w' => e = .returned (.bool ((decide (97 ≤ c) && decide (c ≤ 122)) || (decide (65 ≤ c) && decide (c ≤ 90)))) ∧ w = w' := by
  go_enter Tryz.func93, Tryz.ntmps93
  go_wp2_with fail
  refine (small1_calls c _).mono ?_
  rintro e w1 ⟨rfl, rfl⟩
  obtain ⟨q, hq⟩ : ∃ q, (decide (97 ≤ c) && decide (c ≤ 122)) = q := ⟨_, rfl⟩
  have HQ := Lib.hid hq
  rw [hq]
  clear hq
  cases q
  all_goals go_wp2
  all_goals go_ret
  all_goals exact ⟨ret_bool (by rw [HQ.out, Bool.eq_iff_iff]; simp; try omega), rfl⟩
theorem label1_calls (c : Nat) (w : World) :
    Calls Tryz.prog 92 #[.int .i32 (c : Int)] w fun e w' => e = .returned (.bool (alnum c)) ∧ w = w' := by
  have HA : Hid (alnum c = (((decide (97 ≤ c) && decide (c ≤ 122)) || (decide (65 ≤ c) && decide (c ≤ 90))) || (decide (48 ≤ c) && decide (c ≤ 57)))) := Lib.hid rfl
  go_enter Tryz.func92, Tryz.ntmps92
  go_wp2_with fail
  refine (letter1_calls c _).mono ?_
  rintro e w1 ⟨rfl, rfl⟩
  generalize ((decide (97 ≤ c) && decide (c ≤ 122)) || (decide (65 ≤ c) && decide (c ≤ 90))) = q at *
  cases q
  · go_wp2_with fail
    refine (digit1_calls c _).mono ?_
    rintro e w1 ⟨rfl, rfl⟩
    generalize (decide (48 ≤ c) && decide (c ≤ 57)) = r at *
    cases r
    all_goals go_wp2
    all_goals go_ret
    all_goals exact ⟨ret_bool (by rw [HA.out]; rfl), rfl⟩
  · go_wp2
    go_ret
    exact ⟨ret_bool (by rw [HA.out]; rfl), rfl⟩
def oddL : List UInt8 := [34, 60, 62, 92, 94, 96, 123, 124, 125]
theorem odd_eq : ∀ n : Fin 128, oddL.contains (UInt8.ofNat n.val) = odd.contains n.val := by decide +kernel
set_option maxHeartbeats 800000 in
theorem rune1_calls (c : Nat) (hc : c ≤ 1114111) (w : World) :
    Calls Tryz.prog 91 #[.int .i32 (c : Int)] w fun e w' => e = .returned (.bool (iriRune c)) ∧ w = w' := by
  have HA : Hid (iriRune c = ((decide (32 < c) && decide (c < 127) && !odd.contains c) || (decide (160 ≤ c)))) := Lib.hid rfl
  by_cases h1 : 32 < c
  · by_cases h2 : c < 127
    · have e1 : decide ((32 : Int) < (c : Int)) = true := decide_eq_true (by omega)
      have e2 : decide ((c : Int) < 127) = true := decide_eq_true (by omega)
      have e3 : decide ((160 : Int) ≤ (c : Int)) = false := decide_eq_false (by omega)
      have HO := Lib.hid (odd_eq ⟨c, by omega⟩)
      have HF := Lib.hid (HA.out.trans (show _ = !odd.contains c by rw [decide_eq_true h1, decide_eq_true h2, decide_eq_false (by omega : ¬ 160 ≤ c)]; simp))
      go_enter Tryz.func91, Tryz.ntmps91
      go_wp2_with fail
      refine (containsRune_calls oddL c (by omega) _).mono ?_
      rintro e w1 ⟨rfl, rfl⟩
      rw [HO.out]
      dsimp only
      generalize odd.contains c = q at *
      clear HA HO h1 h2
      cases q
      all_goals go_wp2
      all_goals go_ret
      all_goals exact ⟨ret_bool (by rw [HF.out]; rfl), rfl⟩
    · have e1 : decide ((32 : Int) < (c : Int)) = true := decide_eq_true (by omega)
      have e2 : decide ((c : Int) < 127) = false := decide_eq_false (by omega)
      have HF := Lib.hid (HA.out.trans (show _ = decide ((160 : Int) ≤ (c : Int)) by rw [decide_eq_true h1, decide_eq_false h2, Bool.eq_iff_iff]; simp; try omega))
      clear HA h1 h2
      go_enter Tryz.func91, Tryz.ntmps91
      go_wp2
      all_goals go_ret
      all_goals exact ⟨ret_bool (by first | (rw [HF.out]; done) | (rw [HF.out]; rfl)), rfl⟩
  · have e1 : decide ((32 : Int) < (c : Int)) = false := decide_eq_false (by omega)
    have e3 : decide ((160 : Int) ≤ (c : Int)) = false := decide_eq_false (by omega)
    have HF := Lib.hid (HA.out.trans (show _ = false by rw [decide_eq_false h1, decide_eq_false (by omega : ¬ 160 ≤ c)]; rfl))
    clear HA h1
    go_enter Tryz.func91, Tryz.ntmps91
    go_wp2
    go_ret
    exact ⟨ret_bool HF.out.symm, rfl⟩
theorem holds_rune (w : World) : Holds w 91 #[] iriRune :=
  ⟨enters_of Tryz.func91 (by kernel_rfl) rfl, fun W x hx hb => (rune1_calls x hx W).mono fun e w' ⟨h1, h2⟩ => ⟨h1, h2 ▸ Below.refl _ _⟩⟩
theorem holds_label (w : World) : Holds w 92 #[] alnum :=
  ⟨enters_of Tryz.func92 (by kernel_rfl) rfl, fun W x hx hb => (label1_calls x W).mono fun e w' ⟨h1, h2⟩ => ⟨h1, h2 ▸ Below.refl _ _⟩⟩
set_option maxHeartbeats 1600000 in
theorem isIRI_calls (s : List UInt8) (hs : s.length ≤ 70368744177664) (w : World) (he : Env w) :
    Calls Tryz.prog 64 #[.string (mkS s)] w fun e w' => e = .returned (.bool (isIRI s)) ∧ Below w.heap.size w w' := by
  have z := mkS_size s
  have zt := mkS_toList s
  have HE := Lib.hid he
  have HI : Hid (isIRI s = (decide (s ≠ []) && (decide (s.length ≤ 60) && (validD s && (runes s).all iriRune)))) := Lib.hid rfl
  have HA := Lib.hid (fun w => all_calls s 91 #[] iriRune w (holds_rune w))
  clear he
  by_cases h0 : s = []
  · subst h0
    go_enter Tryz.func64, Tryz.ntmps64
    go_wp2
    go_ret
    exact ⟨rfl, Below.refl _ _⟩
  · have hE : s.isEmpty = false := by cases s with
      | nil => exact absurd rfl h0
      | cons b t => rfl
    by_cases h1 : s.length ≤ 60
    · have e1 : decide ((s.length : Int) ≤ 60) = true := decide_eq_true (by omega)
      have HI2 := Lib.hid (HI.out.trans (show _ = (validD s && (runes s).all iriRune) by rw [decide_eq_true h0, decide_eq_true h1]; simp))
      clear HI
      go_enter Tryz.func64, Tryz.ntmps64
      go_wp2_with fail
      refine (valid_calls s (by omega) _ HE.out).mono ?_
      rintro e w1 ⟨rfl, hb1⟩
      have HB1 := Lib.hid hb1
      clear hb1
      generalize validD s = v at *
      cases v
      · go_wp2
        go_ret
        exact ⟨ret_bool (by rw [HI2.out]; rfl), HB1.out⟩
      · go_wp2_with fail
        refine (HA.out _).mono ?_
        rintro e w2 ⟨rfl, hb2⟩
        have HB2 := Lib.hid (bel_step HB1.out hb2)
        clear hb2
        generalize (runes s).all iriRune = q at *
        cases q
        all_goals go_wp2
        all_goals go_ret
        all_goals exact ⟨ret_bool (by rw [HI2.out]; rfl), HB2.out⟩
    · have e1 : decide ((s.length : Int) ≤ 60) = false := decide_eq_false (by omega)
      have HI2 := Lib.hid (HI.out.trans (show _ = false by rw [decide_eq_false h1]; simp))
      clear HI
      go_enter Tryz.func64, Tryz.ntmps64
      go_wp2
      go_ret
      exact ⟨ret_bool HI2.out.symm, Below.refl _ _⟩
end Go.Proofs.YtmcoloapiiakbaaGreatDoor.Prg
/-
  Text parted at a sign; languages by their parts.
-/
set_option linter.unusedVariables false
set_option linter.unusedSimpArgs false
namespace Go.Proofs.YtmcoloapiiakbaaGreatDoor.SplitP
open Go.Lib Go.Proofs.YtmcoloapiiakbaaGreatDoor.B Go.Proofs.YtmcoloapiiakbaaGreatDoor.Rd Go.Proofs.YtmcoloapiiakbaaGreatDoor.TermPure

/-- The parts between dashes. -/
def splitL : List UInt8 → List (List UInt8)
  | [] => [[]]
  | b :: l => if b = 45 then [] :: splitL l else match splitL l with
    | [] => [[b]]
    | h :: t => (b :: h) :: t
theorem splitL_ne : ∀ l, splitL l ≠ []
  | [] => by simp [splitL]
  | b :: l => by
    rw [splitL]
    split
    · simp
    · split <;> simp
theorem splitL_none : ∀ l : List UInt8, (∀ b ∈ l, b ≠ 45) → splitL l = [l]
  | [], _ => rfl
  | b :: l, h => by rw [splitL, if_neg (h b (by simp)), splitL_none l (fun x hx => h x (by simp [hx]))]
theorem splitL_at : ∀ (a r : List UInt8), (∀ b ∈ a, b ≠ 45) → splitL (a ++ 45 :: r) = a :: splitL r
  | [], r, _ => by rw [List.nil_append, splitL, if_pos rfl]
  | b :: a, r, h => by rw [List.cons_append, splitL, if_neg (h b (by simp)), splitL_at a r (fun x hx => h x (by simp [hx]))]
theorem split_dash : ∀ (n : Nat) (l : List UInt8), l.length ≤ n → splitB (mkS [45]) 0 (countB (mkS l) (mkS [45])) (mkS l) = (splitL l).map mkS
  | n, l, hn => by
    have hi : indexB (mkS l) (mkS [45]) = indexByte l 45 := Lib.one (mkS l) (mkS [45]) rfl
    have hge := indexByte_ge l 45
    by_cases hm : indexByte l 45 = -1
    · have hno := indexByte_none hm
      have hall : ∀ b ∈ l, b ≠ 45 := fun b hb e => by
        obtain ⟨k, hk⟩ := List.mem_iff_getElem?.1 hb
        exact hno k (by rw [hk, e])
      rw [countB_miss _ _ (by rw [hi, hm]), splitB_zero, splitL_none l hall]
      rfl
    · obtain ⟨i, hio⟩ : ∃ i : Nat, indexByte l 45 = i := ⟨(indexByte l 45).toNat, by omega⟩
      obtain ⟨h1, h2⟩ := indexByte_some hio
      have hil : i < l.length := (List.getElem?_eq_some_iff.1 h1).1
      have hl : l = l.take i ++ 45 :: l.drop (i + 1) := by
        conv => lhs; rw [← List.take_append_drop i l]
        rw [List.drop_eq_getElem_cons hil, (List.getElem?_eq_some_iff.1 h1).2]
      have hno : ∀ b ∈ l.take i, b ≠ 45 := fun b hb e => by
        obtain ⟨k, hk⟩ := List.mem_iff_getElem?.1 hb
        rw [List.getElem?_take] at hk
        split at hk
        · rename_i hki
          exact h2 k hki (by rw [hk, e])
        · cases hk
      have hex : (mkS l).extract (i + (mkS [45]).size) (mkS l).size = mkS (l.drop (i + 1)) := by
        rw [mkS_extract, mkS_size, show (mkS [45]).size = 1 from rfl, List.take_of_length_le (by simp)]
      cases n with
      | zero => omega
      | succ n =>
        have ih := split_dash n (l.drop (i + 1)) (by rw [List.length_drop]; omega)
        rw [countB_hit _ _ i (by decide) (by rw [hi, hio]), hex, Nat.add_comm 1, splitB_hit _ _ _ _ i (by rw [hi, hio]), hex, ih, mkS_extract]
        conv => rhs; rw [hl]
        rw [splitL_at _ _ hno]
        simp
def okc (later : Bool) (b : UInt8) : Bool := (decide (97 ≤ b.toNat) && decide (b.toNat ≤ 122)) || (later && (decide (48 ≤ b.toNat) && decide (b.toNat ≤ 57)))
def partOk (later : Bool) (p : List UInt8) : Bool := !p.isEmpty && (decide (p.length ≤ 8) && p.all (okc later))
theorem lang_parts : ∀ (l : List UInt8) (later : Bool) (n : Nat), n ≤ 8 → ∀ h t, splitL l = h :: t → langGo later n l = (decide (0 < n + h.length) && (decide (n + h.length ≤ 8) && (h.all (okc later) && t.all (partOk true))))
  | [], later, n, hn, h, t, hs => by
    rw [splitL] at hs
    cases hs
    rw [langGo]
    simp
    intro _
    exact hn
  | b :: l, later, n, hn, h, t, hs => by
    rw [splitL] at hs
    rw [langGo]
    by_cases hb : b = 45
    · rw [if_pos hb] at hs
      rw [if_pos hb]
      cases hs
      cases hl : splitL l with
      | nil => exact absurd hl (splitL_ne l)
      | cons h2 t2 =>
        rw [lang_parts l true 0 (by omega) h2 t2 hl, List.all_cons]
        have : partOk true h2 = (decide (0 < 0 + h2.length) && (decide (0 + h2.length ≤ 8) && h2.all (okc true))) := by
          unfold partOk
          rw [Nat.zero_add]
          cases h2 <;> simp
        rw [this]
        simp only [List.length_nil, Nat.add_zero, List.all_nil, Bool.true_and, decide_eq_true hn, Bool.and_assoc]
    · rw [if_neg hb] at hs
      rw [if_neg hb]
      cases hl : splitL l with
      | nil => exact absurd hl (splitL_ne l)
      | cons h2 t2 =>
        rw [hl] at hs
        cases hs
        have hc : ((decide (97 ≤ b.toNat) && decide (b.toNat ≤ 122)) || (later && (decide (48 ≤ b.toNat) && decide (b.toNat ≤ 57)))) = okc later b := rfl
        rw [hc, List.all_cons]
        cases ho : okc later b with
        | false => simp
        | true =>
          rw [if_pos rfl]
          by_cases h8 : n < 8
          · rw [lang_parts l later (n + 1) (by omega) h2 _ hl, decide_eq_true h8]
            rw [List.length_cons, show n + 1 + h2.length = n + (h2.length + 1) by omega]
            simp only [Bool.true_and]
          · rw [decide_eq_false h8]
            simp
            intro _ h9
            omega
theorem isLang_parts (s : List UInt8) : ∀ h t, splitL s = h :: t → isLang s = ((partOk false h && t.all (partOk true)) && decide (s.length ≤ 16)) := by
  intro h t hs
  unfold isLang
  rw [lang_parts s false 0 (by omega) h t hs]
  congr 1
  unfold partOk
  rw [Nat.zero_add]
  cases h <;> simp [Bool.and_assoc]
theorem splitL_count : ∀ s : List UInt8, (splitL s).length ≤ s.length + 1
  | [] => by simp [splitL]
  | b :: l => by
    have ih := splitL_count l
    rw [splitL]
    split
    · simp
      exact ih
    · split
      · simp
      · rename_i h t hs
        rw [hs] at ih
        simp at ih ⊢
        omega
theorem splitL_len : ∀ s : List UInt8, ∀ x ∈ splitL s, x.length ≤ s.length
  | [], x, hx => by
    rw [splitL] at hx
    simp at hx
    subst hx
    simp
  | b :: l, x, hx => by
    have ih := splitL_len l
    rw [splitL] at hx
    split at hx
    · rcases List.mem_cons.1 hx with rfl | hx
      · simp
      · have := ih x hx
        simp
        omega
    · split at hx
      · simp at hx
        subst hx
        simp
      · rename_i h t hs
        rw [hs] at ih
        rcases List.mem_cons.1 hx with rfl | hx
        · have := ih h (by simp)
          simp
          exact this
        · have := ih x (by simp [hx])
          simp
          omega
end Go.Proofs.YtmcoloapiiakbaaGreatDoor.SplitP
/-
  Which terms may be, the program's way: labels, languages, terms, triples.
-/
set_option linter.unusedVariables false
set_option linter.unusedSimpArgs false
namespace Go.Proofs.YtmcoloapiiakbaaGreatDoor.Prg
open Go.RowKit Go.Lib Go.Proofs.YtmcoloapiiakbaaGreatDoor.B Go.Proofs.YtmcoloapiiakbaaGreatDoor.Rd Go.Proofs.YtmcoloapiiakbaaGreatDoor.Utf Go.Proofs.YtmcoloapiiakbaaGreatDoor.TermPure Go.Proofs.YtmcoloapiiakbaaGreatDoor.LinesPure Go.Proofs.YtmcoloapiiakbaaGreatDoor.Tx Go.Proofs.YtmcoloapiiakbaaGreatDoor.Env Go.Proofs.YtmcoloapiiakbaaGreatDoor.Bld Go.Proofs.YtmcoloapiiakbaaGreatDoor.Tc Go.Proofs.YtmcoloapiiakbaaGreatDoor.SplitP
open Go.Proofs.YtmcoloapiiakbaaGreatDoor.Ref5 (termV Fits tripleV FitsT isTriple_eq)

theorem runes_all (p : Nat → Bool) (hp : ∀ c, 128 ≤ c → p c = false) : ∀ (n : Nat) (s : List UInt8), s.length ≤ n → (runes s).all p = s.all (fun b => p b.toNat)
  | n, [], _ => rfl
  | 0, b :: t, h => by simp at h
  | n + 1, b :: t, h => by
    simp at h
    by_cases hb : b.toNat < 128
    · rw [runes_ascii b t hb, List.all_cons, List.all_cons, runes_all p hp n t h]
    · have hd : 128 ≤ (decodeL (b :: t)).1 := by
        have := decodeL_drop (mkS (b :: t)) 0
        rw [show (mkS (b :: t)).data.toList.drop 0 = b :: t from rfl] at this
        rw [this]
        exact (decode_high (mkS (b :: t)) 0 (by rw [mkS_size]; simp) (by show 128 ≤ b.toNat; omega)).1
      rw [runes_step _ (by simp), List.all_cons, List.all_cons, hp _ hd, hp _ (by omega)]
      rfl
set_option maxHeartbeats 1600000 in
theorem isLabel_calls (s : List UInt8) (hs : s.length ≤ 70368744177664) (w : World) :
    Calls Tryz.prog 65 #[.string (mkS s)] w fun e w' => e = .returned (.bool (isLabel s)) ∧ Below w.heap.size w w' := by
  have z := mkS_size s
  have zt := mkS_toList s
  have HI : Hid (isLabel s = (decide (s ≠ []) && (decide (s.length ≤ 8) && (runes s).all alnum))) := Lib.hid (by
    rw [runes_all alnum (fun c h => by unfold alnum; simp; omega) s.length s (Nat.le_refl _)]
    rfl)
  have HA := Lib.hid (fun w => all_calls s 92 #[] alnum w (holds_label w))
  by_cases h0 : s = []
  · subst h0
    go_enter Tryz.func65, Tryz.ntmps65
    go_wp2
    go_ret
    exact ⟨rfl, Below.refl _ _⟩
  · have hE : s.isEmpty = false := by cases s with
      | nil => exact absurd rfl h0
      | cons b t => rfl
    by_cases h1 : s.length ≤ 8
    · have e1 : decide ((s.length : Int) ≤ 8) = true := decide_eq_true (by omega)
      have HI2 := Lib.hid (HI.out.trans (show _ = (runes s).all alnum by rw [decide_eq_true h0, decide_eq_true h1]; simp))
      clear HI
      go_enter Tryz.func65, Tryz.ntmps65
      go_wp2_with fail
      refine (HA.out _).mono ?_
      rintro e w2 ⟨rfl, hb2⟩
      have HB2 := Lib.hid hb2
      clear hb2
      generalize (runes s).all alnum = q at *
      cases q
      all_goals go_wp2
      all_goals go_ret
      all_goals exact ⟨ret_bool (by first | (rw [HI2.out]; done) | (rw [HI2.out]; rfl)), HB2.out⟩
    · have e1 : decide ((s.length : Int) ≤ 8) = false := decide_eq_false (by omega)
      have HI2 := Lib.hid (HI.out.trans (show _ = false by rw [decide_eq_false h1]; simp))
      clear HI
      go_enter Tryz.func65, Tryz.ntmps65
      go_wp2
      go_ret
      exact ⟨ret_bool HI2.out.symm, Below.refl _ _⟩
/-- Of a rune of a language's part. -/
def langR (later : Bool) (c : Nat) : Bool := (decide (97 ≤ c) && decide (c ≤ 122)) || (later && (decide (48 ≤ c) && decide (c ≤ 57)))
set_option maxHeartbeats 800000 in
theorem lang1_calls (c k B : Nat) (w : World) (hcell : w.cell? ⟨B, 0, none⟩ = some (.int .i64 (k : Int))) :
    Calls Tryz.prog 96 #[.int .i32 (c : Int), .pointer (some ⟨B, 0, none⟩)] w fun e w' => e = .returned (.bool (langR (decide (0 < k)) c)) ∧ w = w' := by
  have HL : Hid (langR (decide (0 < k)) c = ((decide (97 ≤ c) && decide (c ≤ 122)) || (decide (0 < k) && (decide (48 ≤ c) && decide (c ≤ 57))))) := Lib.hid rfl
  go_enter Tryz.func96, Tryz.ntmps96
  go_wp2_with fail
  refine (small1_calls c _).mono ?_
  rintro e w1 ⟨rfl, rfl⟩
  generalize (decide (97 ≤ c) && decide (c ≤ 122)) = q at *
  cases q
  · by_cases hk : 0 < k
    · have e1 : decide (0 < k) = true := decide_eq_true hk
      have i1 : (0 : Int) < (k : Int) := by omega
      rw [e1] at HL
      go_wp2_with fail
      refine (digit1_calls c _).mono ?_
      rintro e w1 ⟨rfl, rfl⟩
      generalize (decide (48 ≤ c) && decide (c ≤ 57)) = r at *
      cases r
      all_goals go_wp2
      all_goals go_ret
      all_goals exact ⟨ret_bool (by rw [e1, HL.out]; rfl), rfl⟩
    · have e1 : decide (0 < k) = false := decide_eq_false hk
      have i1 : ¬ (0 : Int) < (k : Int) := by omega
      rw [e1] at HL
      go_wp2
      go_ret
      exact ⟨ret_bool (by rw [e1, HL.out]; rfl), rfl⟩
  · go_wp2
    go_ret
    exact ⟨ret_bool (by rw [HL.out]; rfl), rfl⟩
theorem holds_lang (w : World) (k B : Nat) (hB : B < w.heap.size) (hcell : w.cell? ⟨B, 0, none⟩ = some (.int .i64 (k : Int))) :
    Holds w 96 #[.pointer (some ⟨B, 0, none⟩)] (langR (decide (0 < k))) :=
  ⟨enters_of Tryz.func96 (by kernel_rfl) rfl, fun W x hx hb => (lang1_calls x k B W ((hb.cell (p := ⟨B, 0, none⟩) hB).trans hcell)).mono fun e w' ⟨h1, h2⟩ => ⟨h1, h2 ▸ Below.refl _ _⟩⟩
theorem langR_all (later : Bool) (s : List UInt8) : (runes s).all (langR later) = s.all (okc later) := by
  rw [runes_all (langR later) (fun c h => by unfold langR; simp; omega) s.length s (Nat.le_refl _)]
  rfl
/-- The parts from one on. -/
def partsOk : Nat → List (List UInt8) → Bool
  | _, [] => true
  | k, p :: t => partOk (decide (0 < k)) p && partsOk (k + 1) t
theorem partsOk_later : ∀ (t : List (List UInt8)) (k : Nat), 0 < k → partsOk k t = t.all (partOk true)
  | [], _, _ => rfl
  | p :: t, k, h => by rw [partsOk, List.all_cons, partsOk_later t (k + 1) (by omega), decide_eq_true h]
theorem isLang_eq (s : List UInt8) : isLang s = (partsOk 0 (splitL s) && decide (s.length ≤ 16)) := by
  cases hs : splitL s with
  | nil => exact absurd hs (splitL_ne s)
  | cons h t => rw [isLang_parts s h t hs, partsOk, partsOk_later t 1 (by decide)]; rfl
theorem split_calls (s : List UInt8) (hs : s.length ≤ 4294967000) (w : World) (he : Env w) :
    Calls Tryz.prog 95 #[.string (mkS s), .string (mkS [45])] w fun e w' => e = .returned (.slice (some ⟨w.heap.size, 0, none⟩) (splitL s).length (splitL s).length) ∧ w.alloc (.cells (((splitL s).map mkS).map Value.string).toArray 9) = w' := by
  obtain ⟨m, hm⟩ := he.len
  refine (Tryz.strings_Split (mkS s) (mkS [45]) m w (by rw [mkS_size]; omega) hm (by decide)).mono ?_
  rintro e w' ⟨h1, h2⟩
  have h3 := split_dash s.length s (Nat.le_refl _)
  have h4 : countB (mkS s) (mkS [45]) + 1 = (splitL s).length := by
    have := splitB_all (mkS [45]) (by decide) 0 _ (mkS s) rfl
    rw [h3, List.length_map] at this
    exact this.symm
  rw [h4] at h1
  rw [h3] at h2
  exact ⟨h1, h2.symm⟩
set_option maxRecDepth 100000 in
set_option maxHeartbeats 3200000 in
theorem isLang_calls (s : List UInt8) (hs : s.length ≤ 4294967000) (w : World) (he : Env w) :
    Calls Tryz.prog 66 #[.string (mkS s)] w fun e w' => e = .returned (.bool (isLang s)) ∧ Below w.heap.size w w' := by
  have HL := Lib.hid (isLang_eq s)
  have HSp := Lib.hid (split_calls s hs w he)
  have z := mkS_size s
  have hcells : ∀ j (h : j < (splitL s).length), (w.alloc (.cells (((splitL s).map mkS).map Value.string).toArray 9)).cell? ⟨w.heap.size, j, none⟩ = some (.string (mkS ((splitL s)[j]))) := fun j h => by
    unfold World.cell?
    dsimp only
    rw [Kd.heap_new]
    simp
    exact ⟨_, List.getElem?_eq_getElem h, rfl⟩
  have HC0 := Lib.hid hcells
  have hpl : ∀ x ∈ splitL s, x.length ≤ 70368744177664 := fun x hx => by
    have := splitL_len s x hx
    omega
  have HPL := Lib.hid hpl
  have hns : (splitL s).length ≤ s.length + 1 := splitL_count s
  have HB0 := Lib.hid (bel_alloc (Below.refl w.heap.size w) (.cells (((splitL s).map mkS).map Value.string).toArray 9))
  clear he hcells hpl
  generalize splitL s = P at *
  generalize ((P.map mkS).map Value.string).toArray = C at *
  go_enter Tryz.func66, Tryz.ntmps66
  go_wp2_with fail
  refine HSp.out.mono ?_
  rintro e w1 ⟨rfl, rfl⟩
  clear HSp
  go_wp2
  go_loopw [8] (fun vi wr => ∃ k : Nat, k ≤ P.length ∧ vi = .int .i64 k ∧ Hid (Below w.heap.size w wr) ∧ Hid (w.heap.size < wr.heap.size) ∧ Hid (∀ j (h : j < P.length), wr.cell? ⟨w.heap.size, j, none⟩ = some (.string (mkS P[j]))) ∧ Hid (partsOk 0 P = partsOk k (P.drop k))) (fun vi _ => P.length - (intOf vi).toNat)
  case atStart => exact ⟨0, by omega, rfl, HB0, Lib.hid (by simp), HC0, Lib.hid rfl⟩
  case round =>
    obtain ⟨k, hk, rfl, HB, HZ, HC, HP⟩ := hrel
    by_cases hlt : k < P.length
    · have hd : decide (k < P.length) = true := decide_eq_true hlt
      have ik : (k : Int) < (P.length : Int) := by omega
      have ik0 : (0 : Int) ≤ (k : Int) := by omega
      obtain ⟨x, hx0⟩ : ∃ x, P[k] = x := ⟨_, rfl⟩
      have hcell := HC.out k hlt
      rw [hx0] at hcell
      have HD : Hid (partsOk k (P.drop k) = (partOk (decide (0 < k)) x && partsOk (k + 1) (P.drop (k + 1)))) := Lib.hid (by rw [List.drop_eq_getElem_cons hlt, hx0]; rfl)
      have hxl := HPL.out x (by rw [← hx0]; exact List.getElem_mem hlt)
      have zx := mkS_size x
      have zxt := mkS_toList x
      have HPx : Hid (partOk (decide (0 < k)) x = (!x.isEmpty && (decide (x.length ≤ 8) && (runes x).all (langR (decide (0 < k)))))) := Lib.hid (by rw [langR_all]; rfl)
      have hw1 : wr.heap.size < (wr.alloc (.cells #[.int .i64 (k : Int)] 3)).heap.size := by simp
      have hbox : (wr.alloc (.cells #[.int .i64 (k : Int)] 3)).cell? ⟨wr.heap.size, 0, none⟩ = some (.int .i64 (k : Int)) := by
        unfold World.cell?
        dsimp only
        rw [Kd.heap_new]
        rfl
      have HA := Lib.hid (all_calls x 96 #[.pointer (some ⟨wr.heap.size, 0, none⟩)] (langR (decide (0 < k))) (wr.alloc (.cells #[.int .i64 (k : Int)] 3)) (holds_lang _ k wr.heap.size hw1 hbox))
      have HB1 := Lib.hid (bel_alloc HB.out (.cells #[.int .i64 (k : Int)] 3))
      have HNo : Hid (partOk (decide (0 < k)) x = false → isLang s = false) := Lib.hid (fun h => by rw [HL.out, HP.out, HD.out, h]; rfl)
      have HYes : Hid (partOk (decide (0 < k)) x = true → partsOk 0 P = partsOk (k + 1) (P.drop (k + 1))) := Lib.hid (fun h => by rw [HP.out, HD.out, h]; rfl)
      have HZ' := HZ.out
      clear hx0 hw1 hbox HP HD
      by_cases he : x = []
      · have HF := Lib.hid (HNo.out (by rw [HPx.out, he]; rfl))
        have hE : x.isEmpty = true := by rw [he]; rfl
        clear HA HNo HYes HPx he
        go_wp2
        go_ret
        exact ⟨ret_bool HF.out.symm, HB1.out⟩
      · have hE : x.isEmpty = false := by cases x with
          | nil => exact absurd rfl he
          | cons b t => rfl
        by_cases h8 : x.length ≤ 8
        · have e8 : decide ((8 : Int) < (x.length : Int)) = false := decide_eq_false (by omega)
          have HPx2 : Hid (partOk (decide (0 < k)) x = (runes x).all (langR (decide (0 < k)))) := Lib.hid (by rw [HPx.out, hE, decide_eq_true h8]; simp)
          clear HPx
          go_wp2_with fail
          refine HA.out.mono ?_
          rintro e w3 ⟨rfl, hb3⟩
          have HB3 := Lib.hid (bel_step HB1.out hb3)
          have HC3 : Hid (∀ j (h : j < P.length), w3.cell? ⟨w.heap.size, j, none⟩ = some (.string (mkS P[j]))) := Lib.hid (fun j h => by
            rw [(bcell hb3).1 _ _ (by simp; omega)]
            rw [← HC.out j h]
            exact (bcell (bel_alloc (Below.refl wr.heap.size wr) _)).1 _ _ HZ')
          have HZ3 : Hid (w.heap.size < w3.heap.size) := Lib.hid (by have := hb3.size; simp at this; omega)
          clear hb3
          cases hq : (runes x).all (langR (decide (0 < k))) with
          | true =>
            have HP3 := Lib.hid (HYes.out (HPx2.out.trans hq))
            clear hq
            go_wp2
            go_roundw
            case rel => exact ⟨k + 1, by omega, by go_num, HB3, HZ3, HC3, HP3⟩
            case measure => simp [intOf]; omega
          | false =>
            have HF := Lib.hid (HNo.out (HPx2.out.trans hq))
            clear hq
            go_wp2
            go_ret
            exact ⟨ret_bool HF.out.symm, HB3.out⟩
        · have e8 : decide ((8 : Int) < (x.length : Int)) = true := decide_eq_true (by omega)
          have HF := Lib.hid (HNo.out (by rw [HPx.out, decide_eq_false h8]; simp))
          clear HA HNo HYes HPx
          go_wp2
          go_ret
          exact ⟨ret_bool HF.out.symm, HB1.out⟩
    · obtain rfl : k = P.length := by omega
      rw [List.drop_length] at HP
      have HF : Hid (isLang s = decide ((s.length : Int) ≤ 16)) := Lib.hid (by
        rw [HL.out, HP.out, partsOk, Bool.true_and, Bool.eq_iff_iff, decide_eq_true_iff, decide_eq_true_iff]
        omega)
      go_wp2
      go_ret
      exact ⟨ret_bool HF.out.symm, HB.out⟩
end Go.Proofs.YtmcoloapiiakbaaGreatDoor.Prg
/-
  Which terms and triples may be, the program's way.
-/
set_option linter.unusedVariables false
set_option linter.unusedSimpArgs false
namespace Go.Proofs.YtmcoloapiiakbaaGreatDoor.Prg
open Go.RowKit Go.Lib Go.Proofs.YtmcoloapiiakbaaGreatDoor.B Go.Proofs.YtmcoloapiiakbaaGreatDoor.Rd Go.Proofs.YtmcoloapiiakbaaGreatDoor.Utf Go.Proofs.YtmcoloapiiakbaaGreatDoor.TermPure Go.Proofs.YtmcoloapiiakbaaGreatDoor.LinesPure Go.Proofs.YtmcoloapiiakbaaGreatDoor.Tx Go.Proofs.YtmcoloapiiakbaaGreatDoor.Env Go.Proofs.YtmcoloapiiakbaaGreatDoor.Bld Go.Proofs.YtmcoloapiiakbaaGreatDoor.Tc
open Go.Proofs.YtmcoloapiiakbaaGreatDoor.Ref5 (termV Fits tripleV FitsT isTriple_eq)

set_option maxRecDepth 100000 in
set_option maxHeartbeats 3200000 in
theorem pis_calls (t : Term) (ht : Fits t) (hx4 : t.extra.length ≤ 4294967000) (w : World) (he : Env w) :
    Calls Tryz.prog 37 #[termV t] w fun e w' => e = .returned (.bool (is t)) ∧ Below w.heap.size w w' := by
  obtain ⟨kind, x, ex⟩ := t
  obtain ⟨_, hx, hex⟩ := ht
  dsimp only at *
  have zx := mkS_size x
  have ze := mkS_toList ex
  have HE := Lib.hid he
  have HI : Hid (is ⟨kind, x, ex⟩ = if kind = 1 then isIRI x && decide (ex = [])
    else if kind = 2 then isLabel x && decide (ex = [])
    else if kind = 3 then isText x && decide (ex = [])
    else if kind = 4 then isText x && isLang ex
    else if kind = 5 then isText x && isIRI ex
    else false) := Lib.hid rfl
  obtain ⟨xe, hxe⟩ : ∃ xe : Bool, decide (ex = []) = xe := ⟨_, rfl⟩
  have hee : ex.isEmpty = xe := by rw [← hxe]; cases ex <;> rfl
  rw [hxe] at HI
  clear he hxe
  unfold termV
  dsimp only
  go_enter Tryz.func37, Tryz.ntmps37
  go_upto_region 1 with fail
  go_cut [3] (fun v3 wx => v3 = .bool (isText x) ∧ Hid (Below (w.heap.size + 1) (w.alloc (.cells #[.int .i64 kind, .string (mkS x), .string (mkS ex)] 23)) wx))
  case first =>
    clear hee HI
    have HT : Hid (isText x = (decide (x.length ≤ 30) && validD x)) := Lib.hid rfl
    by_cases h30 : x.length ≤ 30
    · have e30 : decide ((x.length : Int) ≤ 30) = true := decide_eq_true (by omega)
      go_wp2_with fail
      refine (valid_calls x (by omega) _ (HE.out.below ((Below.refl _ _).alloc (Nat.le_refl _) _))).mono ?_
      rintro e w1 ⟨rfl, hb1⟩
      have HB1 := Lib.hid hb1
      clear hb1
      have HT2 := Lib.hid (show isText x = validD x by rw [HT.out, decide_eq_true h30]; simp)
      generalize validD x = v at *
      cases v
      all_goals go_wp2
      all_goals go_meet
      all_goals exact ⟨by rw [HT2.out], Lib.hid (by simpa using HB1.out)⟩
    · have e30 : decide ((x.length : Int) ≤ 30) = false := decide_eq_false (by omega)
      have HT2 := Lib.hid (show isText x = false by rw [HT.out, decide_eq_false h30]; rfl)
      go_wp2
      go_meet
      exact ⟨by rw [HT2.out], Lib.hid (Below.refl _ _)⟩
  case rest =>
    obtain ⟨rfl, HB⟩ := hcut
    have hb1 := HB.out
    have hb1' : Below (w.alloc (.cells #[.int .i64 kind, .string (mkS x), .string (mkS ex)] 23)).heap.size (w.alloc (.cells #[.int .i64 kind, .string (mkS x), .string (mkS ex)] 23)) wc := by simpa using hb1
    obtain ⟨hc1, hf1⟩ := bcell hb1'
    have HW := Lib.hid (show Below w.heap.size w wc from ((Below.refl _ _).alloc (Nat.le_refl _) _).trans (hb1.mono (by omega)))
    have HE1 := Lib.hid (HE.out.below HW.out)
    have WC : w.heap.size < wc.heap.size := by have := hb1.size; simp at this; omega
    clear hb1 hb1' HB HE
    generalize isText x = tx at *
    by_cases k1 : kind = 1
    · subst k1
      have HF := Lib.hid (HI.out.trans (if_pos rfl))
      clear HI
      go_wp2_with fail
      refine (isIRI_calls x (by omega) _ HE1.out).mono ?_
      rintro e w2 ⟨rfl, hb2⟩
      obtain ⟨hc2, hf2⟩ := bcell hb2
      have hz2 := hb2.size
      have HW2 := Lib.hid (bel_step HW.out hb2)
      have hz1 : w.heap.size < wc.heap.size := WC
      clear hb2
      generalize isIRI x = r at *
      cases r
      all_goals go_wp2
      all_goals go_ret
      all_goals exact ⟨ret_bool (by rw [HF.out]; simp [*]), HW2.out⟩
    · have e1 : (kind == 1) = false := by rw [beq_eq_false_iff_ne]; exact k1
      by_cases k2 : kind = 2
      · subst k2
        have HF := Lib.hid (HI.out.trans ((if_neg (by decide)).trans (if_pos rfl)))
        clear HI
        go_wp2_with fail
        refine (isLabel_calls x (by omega) _).mono ?_
        rintro e w2 ⟨rfl, hb2⟩
        obtain ⟨hc2, hf2⟩ := bcell hb2
        have hz2 := hb2.size
        have HW2 := Lib.hid (bel_step HW.out hb2)
        have hz1 : w.heap.size < wc.heap.size := WC
        clear hb2
        generalize isLabel x = r at *
        cases r
        all_goals go_wp2
        all_goals go_ret
        all_goals exact ⟨ret_bool (by rw [HF.out]; simp [*]), HW2.out⟩
      · have e2 : (kind == 2) = false := by rw [beq_eq_false_iff_ne]; exact k2
        by_cases k3 : kind = 3
        · subst k3
          have HF := Lib.hid (HI.out.trans ((if_neg (by decide)).trans ((if_neg (by decide)).trans (if_pos rfl))))
          clear HI
          cases tx with
          | false =>
            go_wp2
            all_goals go_ret
            all_goals exact ⟨ret_bool (by rw [HF.out]; simp [*]), HW.out⟩
          | true =>
            go_wp2
            all_goals go_ret
            all_goals exact ⟨ret_bool (by rw [HF.out]; simp [*]), HW.out⟩
        · have e3 : (kind == 3) = false := by rw [beq_eq_false_iff_ne]; exact k3
          by_cases k4 : kind = 4
          · subst k4
            have HF := Lib.hid (HI.out.trans ((if_neg (by decide)).trans ((if_neg (by decide)).trans ((if_neg (by decide)).trans (if_pos rfl)))))
            clear HI
            cases tx with
            | false =>
              go_wp2
              all_goals go_ret
              all_goals exact ⟨ret_bool (by rw [HF.out]; simp [*]), HW.out⟩
            | true =>
              go_wp2_with fail
              refine (isLang_calls ex (by omega) _ HE1.out).mono ?_
              rintro e w2 ⟨rfl, hb2⟩
              obtain ⟨hc2, hf2⟩ := bcell hb2
              have hz2 := hb2.size
              have HW2 := Lib.hid (bel_step HW.out hb2)
              have hz1 : w.heap.size < wc.heap.size := WC
              clear hb2
              generalize isLang ex = r at *
              cases r
              all_goals go_wp2
              all_goals go_ret
              all_goals exact ⟨ret_bool (by rw [HF.out]; simp [*]), HW2.out⟩
          · have e4 : (kind == 4) = false := by rw [beq_eq_false_iff_ne]; exact k4
            by_cases k5 : kind = 5
            · subst k5
              have HF := Lib.hid (HI.out.trans ((if_neg (by decide)).trans ((if_neg (by decide)).trans ((if_neg (by decide)).trans ((if_neg (by decide)).trans (if_pos rfl))))))
              clear HI
              cases tx with
              | false =>
                go_wp2
                all_goals go_ret
                all_goals exact ⟨ret_bool (by rw [HF.out]; simp [*]), HW.out⟩
              | true =>
                go_wp2_with fail
                refine (isIRI_calls ex (by omega) _ HE1.out).mono ?_
                rintro e w2 ⟨rfl, hb2⟩
                obtain ⟨hc2, hf2⟩ := bcell hb2
                have hz2 := hb2.size
                have HW2 := Lib.hid (bel_step HW.out hb2)
                have hz1 : w.heap.size < wc.heap.size := WC
                clear hb2
                generalize isIRI ex = r at *
                cases r
                all_goals go_wp2
                all_goals go_ret
                all_goals exact ⟨ret_bool (by rw [HF.out]; simp [*]), HW2.out⟩
            · have e5 : (kind == 5) = false := by rw [beq_eq_false_iff_ne]; exact k5
              have HF := Lib.hid (HI.out.trans ((if_neg k1).trans ((if_neg k2).trans ((if_neg k3).trans ((if_neg k4).trans (if_neg k5))))))
              clear HI
              go_wp2
              go_ret
              exact ⟨ret_bool HF.out.symm, HW.out⟩
set_option maxRecDepth 100000 in
set_option maxHeartbeats 3200000 in
theorem pist_calls (t : Triple) (ht : FitsT t) (hg : t.s.extra.length ≤ 4294967000 ∧ t.p.extra.length ≤ 4294967000 ∧ t.o.extra.length ≤ 4294967000) (w : World) (he : Env w) :
    Calls Tryz.prog 17 #[tripleV t] w fun e w' => e = .returned (.bool (isTriple t)) ∧ Below w.heap.size w w' := by
  have HI := Lib.hid (isTriple_eq t)
  obtain ⟨⟨k1, x1, y1⟩, ⟨k2, x2, y2⟩, ⟨k3, x3, y3⟩⟩ := t
  obtain ⟨h1, h2, h3⟩ := ht
  obtain ⟨g1, g2, g3⟩ := hg
  dsimp only at *
  have HE := Lib.hid (he.below ((Below.refl w.heap.size w).alloc (Nat.le_refl _) (.cells #[.int .i64 k1, .string (mkS x1), .string (mkS y1), .int .i64 k2, .string (mkS x2), .string (mkS y2), .int .i64 k3, .string (mkS x3), .string (mkS y3)] 25)))
  have HB := Lib.hid ((Below.refl w.heap.size w).alloc (Nat.le_refl _) (.cells #[.int .i64 k1, .string (mkS x1), .string (mkS y1), .int .i64 k2, .string (mkS x2), .string (mkS y2), .int .i64 k3, .string (mkS x3), .string (mkS y3)] 25))
  have H1 := Lib.hid (fun W hW => pis_calls ⟨k1, x1, y1⟩ h1 g1 W hW)
  have H2 := Lib.hid (fun W hW => pis_calls ⟨k2, x2, y2⟩ h2 g2 W hW)
  have H3 := Lib.hid (fun W hW => pis_calls ⟨k3, x3, y3⟩ h3 g3 W hW)
  clear he h1 h2 h3 g1 g2 g3
  have HK := Lib.hid (Ref5.is_kind ⟨k1, x1, y1⟩)
  dsimp only at HK
  unfold termV at H1 H2 H3
  dsimp only at H1 H2 H3
  generalize is ⟨k1, x1, y1⟩ = r1 at *
  generalize is ⟨k2, x2, y2⟩ = r2 at *
  generalize is ⟨k3, x3, y3⟩ = r3 at *
  unfold tripleV
  dsimp only
  go_enter Tryz.func17, Tryz.ntmps17
  go_wp2_with fail
  refine (H1.out _ HE.out).mono ?_
  rintro e w1 ⟨rfl, hb1⟩
  obtain ⟨hc1, hf1⟩ := bcell hb1
  have hz1 : w.heap.size < w1.heap.size := by have := hb1.size; simp at this; omega
  have HB1 := Lib.hid (bel_step HB.out hb1)
  have HE1 := Lib.hid (HE.out.below hb1)
  clear hb1
  cases r1 with
  | false =>
    have HF := Lib.hid HI.out
    go_wp2
    go_ret
    exact ⟨ret_bool (by rw [HI.out]; rfl), HB1.out⟩
  | true =>
    go_wp2_with fail
    refine (H2.out _ HE1.out).mono ?_
    rintro e w2 ⟨rfl, hb2⟩
    obtain ⟨hc2, hf2⟩ := bcell hb2
    have hz2 : w.heap.size < w2.heap.size := by have := hb2.size; omega
    have HB2 := Lib.hid (bel_step HB1.out hb2)
    have HE2 := Lib.hid (HE1.out.below hb2)
    clear hb2
    cases r2 with
    | false =>
      go_wp2
      go_ret
      exact ⟨ret_bool (by rw [HI.out]; rfl), HB2.out⟩
    | true =>
      go_wp2_with fail
      refine (H3.out _ HE2.out).mono ?_
      rintro e w3 ⟨rfl, hb3⟩
      obtain ⟨hc3, hf3⟩ := bcell hb3
      have hz3 : w.heap.size < w3.heap.size := by have := hb3.size; omega
      have HB3 := Lib.hid (bel_step HB2.out hb3)
      clear hb3
      cases r3 with
      | false =>
        go_wp2
        go_ret
        exact ⟨ret_bool (by rw [HI.out]; rfl), HB3.out⟩
      | true =>
        have HF : Hid (isTriple ⟨⟨k1, x1, y1⟩, ⟨k2, x2, y2⟩, ⟨k3, x3, y3⟩⟩ = (((k1 == 1) || (k1 == 2)) && (k2 == 1))) := Lib.hid (by
          have hk := HK.out (by first | rfl | trivial)
          rw [HI.out]
          simp only [Bool.true_and]
          congr 1
          rw [Bool.eq_iff_iff]
          simp
          omega)
        clear HI HK
        obtain ⟨q1, hq1⟩ : ∃ q : Bool, (k1 == 1) = q := ⟨_, rfl⟩
        obtain ⟨q2, hq2⟩ : ∃ q : Bool, (k1 == 2) = q := ⟨_, rfl⟩
        obtain ⟨q3, hq3⟩ : ∃ q : Bool, (k2 == 1) = q := ⟨_, rfl⟩
        rw [hq1, hq2, hq3] at HF
        cases q1
        all_goals cases q2
        all_goals cases q3
        all_goals go_wp2
        all_goals go_ret
        all_goals exact ⟨ret_bool (by rw [HF.out]; rfl), HB3.out⟩
end Go.Proofs.YtmcoloapiiakbaaGreatDoor.Prg
/-
  What the program's reader of lines answers: terms.
-/
set_option linter.unusedVariables false
set_option linter.unusedSimpArgs false
namespace Go.Proofs.YtmcoloapiiakbaaGreatDoor.Prg
open Go.RowKit Go.Lib Go.Proofs.YtmcoloapiiakbaaGreatDoor.B Go.Proofs.YtmcoloapiiakbaaGreatDoor.Rd Go.Proofs.YtmcoloapiiakbaaGreatDoor.Utf Go.Proofs.YtmcoloapiiakbaaGreatDoor.TermPure Go.Proofs.YtmcoloapiiakbaaGreatDoor.LinesPure Go.Proofs.YtmcoloapiiakbaaGreatDoor.Tx Go.Proofs.YtmcoloapiiakbaaGreatDoor.Env Go.Proofs.YtmcoloapiiakbaaGreatDoor.Bld Go.Proofs.YtmcoloapiiakbaaGreatDoor.Tc
open Go.Proofs.YtmcoloapiiakbaaGreatDoor.Ref5 (termV Fits tripleV FitsT isTriple_eq two_zero up_len run_fst_len run_snd_len low_len zeroTr T9 oneV FitsO Next)

theorem next_is (l : List UInt8) (hv : validD l = true) (hne : l ≠ []) : (((decodeL l).1 : Int) == 60) = ([60] : List UInt8).isPrefixOf l := by
  rcases Utf.step l hne hv with ⟨b, t, rfl, hb, hd, ht⟩ | ⟨ch, t, c, hc⟩
  · rw [hd]
    show ((b.toNat : Int) == 60) = ((60 : UInt8) == b && true)
    rw [Bool.and_true, Bool.eq_iff_iff, beq_iff_eq, beq_iff_eq]
    constructor
    · intro h; exact UInt8.toNat_inj.1 (by show 60 = b.toNat; omega)
    · rintro rfl; rfl
  · rw [hc.dec]
    have h128 := hc.ge
    have h2 := hc.two
    obtain ⟨b, ch', rfl⟩ : ∃ b ch', ch = b :: ch' := by cases ch with
      | nil => simp at h2
      | cons b ch' => exact ⟨b, ch', rfl⟩
    have hb := hc.high b (by simp)
    have e1 : (((c : Nat) : Int) == 60) = false := by rw [beq_eq_false_iff_ne]; omega
    have e2 : ((60 : UInt8) == b) = false := by rw [beq_eq_false_iff_ne]; rintro rfl; exact absurd hb (by decide)
    rw [hc.eq]
    show (((c : Nat) : Int) == 60) = ((60 : UInt8) == b && _)
    rw [e1, e2, Bool.false_and]
theorem literal_extra (l : List UInt8) : ∀ t q, literal false l = some (t, q) → t.extra.length ≤ l.length := by
  intro t q h
  rw [literal] at h
  cases hu : up 34 true true l with
  | none => rw [hu] at h; cases h
  | some p =>
    obtain ⟨x, r⟩ := p
    have h1 := up_len 34 true true l.length l (Nat.le_refl _) x r hu
    rw [hu] at h
    dsimp only at h
    split at h
    · cases h
      dsimp only
      rw [low_len]
      have := run_fst_len true (r.drop 1)
      rw [List.length_drop] at this
      omega
    · split at h
      · split at h
        · cases hv : up 62 false false (r.drop 3) with
          | none => rw [hv] at h; cases h
          | some p2 =>
            obtain ⟨e, y⟩ := p2
            have h2 := up_len 62 false false _ (r.drop 3) (Nat.le_refl _) e y hv
            rw [hv] at h
            cases h
            rw [List.length_drop] at h2
            dsimp only
            omega
        · cases h
      · cases h
        simp
/-- What has been read of a term ahead of the check. -/
def PRaw (w : World) (rb g2 g3 : Nat) (l : List UInt8) (wx : World) : Prop :=
  ∃ t : Term, TC wx g3 0 t ∧ TC wx g2 0 zeroT ∧ Env wx ∧
    ((rawTerm false l = none ∧ ∃ s, Step w wx rb s true) ∨ (∃ q, Step w wx rb q false ∧ validD q = true ∧ Fits t ∧ t.extra.length ≤ 1000000 ∧ (rawTerm false l = some (t, q) ∨ (rawTerm false l = none ∧ is t = false))))
set_option maxRecDepth 100000 in
set_option maxHeartbeats 6400000 in
theorem term_calls (rb : Nat) (l : List UInt8) (hll : l.length ≤ 1000000) (hv : validD l = true) (w : World) (he : Env w) (hrb : lowB ≤ rb) (h : At w rb l false) :
    Calls Tryz.prog 29 #[.pointer (some ⟨rb, 0, none⟩)] w fun e w' => PTermPost w rb (term false l) e w' := by
  have hlt := h.lt
  have HS0 := Lib.hid (((Step.refl h).alloc (.cells #[.int .i64 0, .string (mkS []), .string (mkS [])] 23)).alloc (.cells #[.int .i64 0, .string (mkS []), .string (mkS [])] 23))
  have HT := Lib.hid (two_zero (w := w))
  have T2 := Lib.hid (HT.out w rfl).1
  have T3 := Lib.hid (HT.out w rfl).2
  have HE0 := Lib.hid (he.below (bel_alloc (bel_alloc (Below.refl _ _) (.cells #[.int .i64 0, .string (mkS []), .string (mkS [])] 23)) (.cells #[.int .i64 0, .string (mkS []), .string (mkS [])] 23)))
  have HV := Lib.hid hv
  have hlow := he.low
  have hn2 : ¬ w.heap.size = rb := by omega
  have hn3 : ¬ w.heap.size + 1 = rb := by omega
  have hz3 : w.heap.size < w.heap.size + 1 := by omega
  have HR : Hid (rawTerm false l = if ([60] : List UInt8).isPrefixOf l = true then (up 62 false false (l.drop 1)).map fun x => (⟨1, x.1, []⟩, x.2)
    else if ([95, 58] : List UInt8).isPrefixOf l = true then some (⟨2, (run false (l.drop 2)).1, []⟩, (run false (l.drop 2)).2)
    else if ([34] : List UInt8).isPrefixOf l = true then literal false (l.drop 1)
    else none) := Lib.hid rfl
  clear h he hv
  go_enter Tryz.func29, Tryz.ntmps29
  go_upto_block 0 with fail
  go_cut [] (fun wx => Hid (PRaw w rb w.heap.size (w.heap.size + 1) l wx))
  case first =>
    go_upto_region 2 with fail
    go_cut [4] (fun v4 wx => v4 = .bool (([60] : List UInt8).isPrefixOf l) ∧ Hid (Step w wx rb l false) ∧ Hid (TC wx w.heap.size 0 zeroT) ∧ Hid (TC wx (w.heap.size + 1) 0 zeroT) ∧ Hid (Env wx))
    case first =>
      by_cases hne : l = []
      · subst hne
        go_wp2_with fail
        refine (next_end_calls rb [] false (.inr rfl) _ HS0.out.at').mono ?_
        rintro e w1 ⟨rfl, rfl⟩
        go_wp2
        go_meet
        exact ⟨rfl, HS0, T2, T3, HE0⟩
      · have hni := next_is l HV.out hne
        have HNx := Lib.hid (next_calls rb l hne _ HE0.out HS0.out.at')
        generalize (decodeL l).1 = c at *
        go_wp2_with fail
        refine HNx.out.mono ?_
        rintro e w1 ⟨rfl, hb1⟩
        have HS1 := Lib.hid (HS0.out.below hb1)
        have U2 := Lib.hid (T2.out.below hb1)
        have U3 := Lib.hid (T3.out.below hb1)
        have HE1 := Lib.hid (HE0.out.below hb1)
        have HNi := Lib.hid hni
        obtain ⟨q, hq⟩ : ∃ q, ((c : Int) == 60) = q := ⟨_, rfl⟩
        rw [hq] at HNi
        clear hb1 hni
        cases q
        all_goals go_wp2
        all_goals go_meet
        all_goals exact ⟨by rw [← HNi.out], HS1, U2, U3, HE1⟩
    case rest =>
      obtain ⟨rfl, HS1, U2, U3, HE1⟩ := hcut
      clear HS0 T2 T3 HE0
      cases c1 : ([60] : List UInt8).isPrefixOf l with
      | true =>
        have HD := Lib.hid (HR.out.trans (if_pos c1))
        have HI := Lib.hid (iri_calls rb l HV.out _ HE1.out hrb HS1.out.at')
        rw [if_pos c1] at HI
        have UL2 := up_len 62 false false (l.drop 1).length (l.drop 1) (Nat.le_refl _)
        have hdl : (l.drop 1).length ≤ l.length := by simp
        clear c1 HR
        generalize up 62 false false (l.drop 1) = R at *
        go_wp2_with fail
        refine HI.out.mono ?_
        intro e w2 hp
        cases R with
        | none =>
          obtain ⟨o, s, rfl, hs2⟩ := hp
          have HS2 := Lib.hid (HS1.out.trans hs2)
          have W2 := Lib.hid (U2.out.grown hs2.grown hn2)
          have W3 := Lib.hid (U3.out.grown hs2.grown hn3)
          have HE2 := Lib.hid (HE1.out.step hs2 hrb)
          clear hs2
          obtain ⟨k0, k1, k2, k3, k4, k5⟩ := W3.out
          simp only [Nat.zero_add] at k1 k2 k4 k5
          go_wp2
          go_meet
          refine Lib.hid ⟨⟨1, o, []⟩, W3.out.set ⟨1, o, []⟩, ((W2.out.other (Nat.ne_of_lt hz3) _).other (Nat.ne_of_lt hz3) _).other (Nat.ne_of_lt hz3) _, ((HE2.out.set (by omega) _).set (by omega) _).set (by omega) _, .inl ⟨HD.out, s, ((HS2.out.other (by omega) (by omega) _).other (by omega) (by omega) _).other (by omega) (by omega) _⟩⟩
        | some p2 =>
          obtain ⟨o, q⟩ := p2
          have hol := UL2 o q rfl
          obtain ⟨rfl, hs2, hvq⟩ := hp
          have HVq := Lib.hid hvq
          clear hvq
          have HS2 := Lib.hid (HS1.out.trans hs2)
          have W2 := Lib.hid (U2.out.grown hs2.grown hn2)
          have W3 := Lib.hid (U3.out.grown hs2.grown hn3)
          have HE2 := Lib.hid (HE1.out.step hs2 hrb)
          clear hs2
          obtain ⟨k0, k1, k2, k3, k4, k5⟩ := W3.out
          simp only [Nat.zero_add] at k1 k2 k4 k5
          go_wp2
          go_meet
          refine Lib.hid ⟨⟨1, o, []⟩, W3.out.set ⟨1, o, []⟩, ((W2.out.other (Nat.ne_of_lt hz3) _).other (Nat.ne_of_lt hz3) _).other (Nat.ne_of_lt hz3) _, ((HE2.out.set (by omega) _).set (by omega) _).set (by omega) _, .inr ⟨q, ((HS2.out.other (by omega) (by omega) _).other (by omega) (by omega) _).other (by omega) (by omega) _, HVq.out, ⟨by simp, by simp; omega, by simp⟩, by simp, .inl HD.out⟩⟩
      | false =>
        replace HR := Lib.hid (HR.out.trans (if_neg (by rw [c1]; decide)))
        clear c1
        have M2 := Lib.hid (valid_drop [95, 58] (by decide) l)
        have M3 := Lib.hid (valid_drop [34] (by decide) l)
        go_wp2_with fail
        refine (is_calls rb l [95, 58] _ HS1.out.at').mono ?_
        rintro e w2 ⟨rfl, hs2⟩
        have HS2 := Lib.hid (HS1.out.trans hs2)
        have U2 := Lib.hid (U2.out.grown hs2.grown hn2)
        have U3 := Lib.hid (U3.out.grown hs2.grown hn3)
        have HE2 := Lib.hid (HE1.out.step hs2 hrb)
        clear hs2
        cases c2 : ([95, 58] : List UInt8).isPrefixOf l with
        | true =>
          have HD := Lib.hid (HR.out.trans (if_pos c2))
          have HVq := Lib.hid (M2.out c2 HV.out)
          rw [c2] at HS2
          simp only [if_true, List.length_cons, List.length_nil, Nat.zero_add, Nat.reduceAdd] at HS2 HVq
          have hql : (l.drop 2).length ≤ l.length := by simp
          clear c2 HR M2 M3
          generalize l.drop 2 = q at *
          go_wp2_with fail
          refine (while_calls rb q _ false tells_plain _ HS2.out.at').mono ?_
          rintro e w3 ⟨rfl, hs2⟩
          have HS3 := Lib.hid (HS2.out.trans hs2)
          have U2 := Lib.hid (U2.out.grown hs2.grown hn2)
          have U3 := Lib.hid (U3.out.grown hs2.grown hn3)
          have HE3 := Lib.hid (HE2.out.step hs2 hrb)
          clear hs2
          have hr1 := run_fst_len false q
          have HVr := Lib.hid (run_valid false q HVq.out)
          generalize run false q = pr at *
          obtain ⟨ru, rq⟩ := pr
          dsimp only at *
          obtain ⟨k0, k1, k2, k3, k4, k5⟩ := U3.out
          simp only [Nat.zero_add] at k1 k2 k4 k5
          go_wp2
          go_meet
          refine Lib.hid ⟨⟨2, ru, []⟩, U3.out.set ⟨2, ru, []⟩, ((U2.out.other (Nat.ne_of_lt hz3) _).other (Nat.ne_of_lt hz3) _).other (Nat.ne_of_lt hz3) _, ((HE3.out.set (by omega) _).set (by omega) _).set (by omega) _, .inr ⟨rq, ((HS3.out.other (by omega) (by omega) _).other (by omega) (by omega) _).other (by omega) (by omega) _, HVr.out, ⟨by simp, by simp; omega, by simp⟩, by simp, .inl HD.out⟩⟩
        | false =>
          replace HR := Lib.hid (HR.out.trans (if_neg (by rw [c2]; decide)))
          rw [c2] at HS2
          simp only [Bool.false_eq_true, if_false] at HS2
          clear c2 M2
          go_wp2_with fail
          refine (is_calls rb l [34] _ HS2.out.at').mono ?_
          rintro e w3 ⟨rfl, hs2⟩
          have HS3 := Lib.hid (HS2.out.trans hs2)
          have U2 := Lib.hid (U2.out.grown hs2.grown hn2)
          have U3 := Lib.hid (U3.out.grown hs2.grown hn3)
          have HE3 := Lib.hid (HE2.out.step hs2 hrb)
          clear hs2
          cases c3 : ([34] : List UInt8).isPrefixOf l with
          | true =>
            have HD := Lib.hid (HR.out.trans (if_pos c3))
            have HVq := Lib.hid (M3.out c3 HV.out)
            rw [c3] at HS3
            simp only [if_true, List.length_cons, List.length_nil, Nat.zero_add] at HS3 HVq
            have hql : (l.drop 1).length ≤ l.length := by simp
            have HLE := Lib.hid (literal_extra (l.drop 1))
            clear c3 HR M3
            generalize l.drop 1 = q at *
            go_wp2_with fail
            refine (literal_calls rb q HVq.out _ HE3.out hrb HS3.out.at').mono ?_
            intro e w4 hp
            generalize literal false q = R at *
            cases R with
            | none =>
              obtain ⟨⟨⟨tk, tx, te⟩, rfl⟩, s, hs2⟩ := hp
              unfold termV
              have HS4 := Lib.hid (HS3.out.trans hs2)
              have U2 := Lib.hid (U2.out.grown hs2.grown hn2)
              have U3 := Lib.hid (U3.out.grown hs2.grown hn3)
              have HE4 := Lib.hid (HE3.out.step hs2 hrb)
              clear hs2
              obtain ⟨k0, k1, k2, k3, k4, k5⟩ := U3.out
              simp only [Nat.zero_add] at k1 k2 k4 k5
              go_wp2
              go_meet
              refine Lib.hid ⟨⟨tk, tx, te⟩, U3.out.set ⟨tk, tx, te⟩, ((U2.out.other (Nat.ne_of_lt hz3) _).other (Nat.ne_of_lt hz3) _).other (Nat.ne_of_lt hz3) _, ((HE4.out.set (by omega) _).set (by omega) _).set (by omega) _, .inl ⟨HD.out, s, ((HS4.out.other (by omega) (by omega) _).other (by omega) (by omega) _).other (by omega) (by omega) _⟩⟩
            | some p2 =>
              obtain ⟨⟨tk, tx, te⟩, y⟩ := p2
              obtain ⟨⟨rfl, hft⟩, hs2, hvy⟩ := hp
              have HFt := Lib.hid hft
              have HVy := Lib.hid hvy
              have HX := Lib.hid (HLE.out _ _ rfl)
              unfold termV
              clear hft hvy
              have HS4 := Lib.hid (HS3.out.trans hs2)
              have U2 := Lib.hid (U2.out.grown hs2.grown hn2)
              have U3 := Lib.hid (U3.out.grown hs2.grown hn3)
              have HE4 := Lib.hid (HE3.out.step hs2 hrb)
              clear hs2
              obtain ⟨k0, k1, k2, k3, k4, k5⟩ := U3.out
              simp only [Nat.zero_add] at k1 k2 k4 k5
              go_wp2
              go_meet
              refine Lib.hid ⟨⟨tk, tx, te⟩, U3.out.set ⟨tk, tx, te⟩, ((U2.out.other (Nat.ne_of_lt hz3) _).other (Nat.ne_of_lt hz3) _).other (Nat.ne_of_lt hz3) _, ((HE4.out.set (by omega) _).set (by omega) _).set (by omega) _, .inr ⟨y, ((HS4.out.other (by omega) (by omega) _).other (by omega) (by omega) _).other (by omega) (by omega) _, HVy.out, HFt.out, by have := HX.out; dsimp only at this ⊢; omega, .inl HD.out⟩⟩
          | false =>
            replace HR := Lib.hid (HR.out.trans (if_neg (by rw [c3]; decide)))
            rw [c3] at HS3
            simp only [Bool.false_eq_true, if_false] at HS3
            clear c3 M3
            go_wp2
            go_meet
            exact Lib.hid ⟨zeroT, U3.out, U2.out, HE3.out, .inr ⟨l, HS3.out, HV.out, ⟨by decide, by decide, by decide⟩, by decide, .inr ⟨HR.out, rfl⟩⟩⟩
  case rest =>
    obtain ⟨⟨tk, tx, te⟩, h3, h2, he2, hcase⟩ := hcut.out
    have hz2 := h3.lt
    have HT3 := Lib.hid h3
    have HT2 := Lib.hid h2
    have HE2 := Lib.hid he2
    clear hcut h3 h2 he2 HR T2 T3 HS0 HE0 HT
    rcases hcase with ⟨hd, s, hs⟩ | ⟨q, hs, hvq, hft, hex, hd⟩
    · have HD := Lib.hid (show term false l = none by rw [term, hd])
      have HS := Lib.hid hs
      obtain ⟨a0, a1, b0, b1, _⟩ := hs.at'
      clear hd hs
      obtain ⟨k0, k1, k2, k3, k4, k5⟩ := HT3.out
      simp only [Nat.zero_add] at k1 k2 k4 k5
      obtain ⟨m0, m1, m2, m3, m4, m5⟩ := HT2.out
      simp only [Nat.zero_add] at m1 m2 m4 m5
      dsimp only [zeroT] at *
      go_wp2
      refine bodyPost_ret (v := termV ⟨tk, tx, te⟩) (by simp [results, Tryz.results29, go_sem, hn2, hn3, m0, m1, m2, termV, mkS_nil]) rfl ?_
      rw [show term false l = none from HD.out]
      refine ⟨⟨_, rfl⟩, s, ?_⟩
      clear k0 k1 k2 k3 k4 k5
      clear m0 m1 m2 m3 m4 m5
      repeat first | exact HS.out.set1 true | exact HS.out | refine Step.other ?_ (by omega) (by omega) _
    · have HS := Lib.hid hs
      have HVq := Lib.hid hvq
      have HFt := Lib.hid hft
      have HD : Hid (term false l = if is ⟨tk, tx, te⟩ = true then some (⟨tk, tx, te⟩, q) else none) := Lib.hid (by
        rcases hd with hd | ⟨hd, hi⟩
        · rw [term, hd]
        · rw [term, hd, hi]
          rfl)
      have HPi := Lib.hid (pis_calls ⟨tk, tx, te⟩ hft (by dsimp only at hex ⊢; omega))
      obtain ⟨a0, a1, b0, b1, _⟩ := hs.at'
      clear hd hs hvq hft hex
      obtain ⟨k0, k1, k2, k3, k4, k5⟩ := HT3.out
      simp only [Nat.zero_add] at k1 k2 k4 k5
      obtain ⟨m0, m1, m2, m3, m4, m5⟩ := HT2.out
      simp only [Nat.zero_add] at m1 m2 m4 m5
      dsimp only [zeroT] at *
      go_wp2_with fail
      refine (HPi.out _ HE2.out).mono ?_
      rintro e w3 ⟨rfl, hb3⟩
      have HS3 := Lib.hid (HS.out.below hb3)
      have HU3 := Lib.hid (HT3.out.below hb3)
      have HU2 := Lib.hid (HT2.out.below hb3)
      clear hb3 a0 a1 b0 b1
      clear k0 k1 k2 k3 k4 k5
      clear m0 m1 m2 m3 m4 m5
      obtain ⟨a0, a1, b0, b1, _⟩ := HS3.out.at'
      obtain ⟨k0, k1, k2, k3, k4, k5⟩ := HU3.out
      simp only [Nat.zero_add] at k1 k2 k4 k5
      obtain ⟨m0, m1, m2, m3, m4, m5⟩ := HU2.out
      simp only [Nat.zero_add] at m1 m2 m4 m5
      dsimp only at *
      cases hi : is ⟨tk, tx, te⟩ with
      | true =>
        have HD1 := Lib.hid (HD.out.trans (if_pos hi))
        clear hi HD
        go_wp2
        refine bodyPost_ret (v := termV ⟨tk, tx, te⟩) (by simp [results, Tryz.results29, go_sem, hn2, hn3, m0, m1, m2, termV, mkS_nil]) rfl ?_
        rw [show term false l = some (⟨tk, tx, te⟩, q) from HD1.out]
        refine ⟨⟨rfl, HFt.out⟩, ?_, HVq.out⟩
        clear k0 k1 k2 k3 k4 k5
        clear m0 m1 m2 m3 m4 m5
        repeat first | exact HS3.out | refine Step.other ?_ (by omega) (by omega) _
      | false =>
        have HD1 := Lib.hid (HD.out.trans (if_neg (by rw [hi]; decide)))
        clear hi HD
        go_wp2
        refine bodyPost_ret (v := termV ⟨tk, tx, te⟩) (by simp [results, Tryz.results29, go_sem, hn2, hn3, m0, m1, m2, termV, mkS_nil]) rfl ?_
        rw [show term false l = none from HD1.out]
        refine ⟨⟨_, rfl⟩, q, ?_⟩
        clear k0 k1 k2 k3 k4 k5
        clear m0 m1 m2 m3 m4 m5
        repeat first | exact HS3.out.set1 true | exact HS3.out | refine Step.other ?_ (by omega) (by omega) _
end Go.Proofs.YtmcoloapiiakbaaGreatDoor.Prg
/-
  What the program's reader of lines answers: in whatever state.
-/
set_option linter.unusedVariables false
set_option linter.unusedSimpArgs false
namespace Go.Proofs.YtmcoloapiiakbaaGreatDoor.Prg
open Go.RowKit Go.Lib Go.Proofs.YtmcoloapiiakbaaGreatDoor.B Go.Proofs.YtmcoloapiiakbaaGreatDoor.Rd Go.Proofs.YtmcoloapiiakbaaGreatDoor.Utf Go.Proofs.YtmcoloapiiakbaaGreatDoor.TermPure Go.Proofs.YtmcoloapiiakbaaGreatDoor.LinesPure Go.Proofs.YtmcoloapiiakbaaGreatDoor.Tx Go.Proofs.YtmcoloapiiakbaaGreatDoor.Env Go.Proofs.YtmcoloapiiakbaaGreatDoor.Bld Go.Proofs.YtmcoloapiiakbaaGreatDoor.Tc
open Go.Proofs.YtmcoloapiiakbaaGreatDoor.Ref5 (termV Fits tripleV FitsT isTriple_eq two_zero up_len run_fst_len run_snd_len low_len zeroTr T9 oneV FitsO one_by lineEnd)

set_option maxRecDepth 100000 in
set_option maxHeartbeats 1600000 in
theorem term_bad_calls (rb : Nat) (l : List UInt8) (w : World) (h : At w rb l true) :
    Calls Tryz.prog 29 #[.pointer (some ⟨rb, 0, none⟩)] w fun e w' => (∃ t : Term, e = .returned (termV t)) ∧ Step w w' rb l true := by
  have hlt := h.lt
  have HT := Lib.hid (two_zero (w := w) w rfl)
  have HS0 := Lib.hid (((Step.refl h).alloc (.cells #[.int .i64 0, .string (mkS []), .string (mkS [])] 23)).alloc (.cells #[.int .i64 0, .string (mkS []), .string (mkS [])] 23))
  have hn2 : ¬ w.heap.size = rb := by omega
  have hn3 : ¬ w.heap.size + 1 = rb := by omega
  obtain ⟨a0, a1, b0, b1, _⟩ := h
  go_enter Tryz.func29, Tryz.ntmps29
  go_wp2_with fail
  refine (next_end_calls rb l true (.inl rfl) _ HS0.out.at').mono ?_
  rintro e w2 ⟨rfl, rfl⟩
  go_wp2_with fail
  refine (is_bad_calls rb l [95, 58] _ HS0.out.at').mono ?_
  rintro e w2 ⟨rfl, rfl⟩
  go_wp2_with fail
  refine (is_bad_calls rb l [34] _ HS0.out.at').mono ?_
  rintro e w2 ⟨rfl, rfl⟩
  go_wp2
  refine bodyPost_ret (v := termV zeroT) (by simp [results, Tryz.results29, go_sem, hn2, hn3, termV, mkS_nil, zeroT]) rfl ?_
  refine ⟨⟨zeroT, rfl⟩, ?_⟩
  repeat first | exact HS0.out.set1 true | exact HS0.out | exact ((Step.refl ⟨a0, a1, b0, b1, by assumption⟩).set1 true) | refine Step.alloc ?_ _ | refine Step.other ?_ (by omega) (by omega) _
/-- A reader's state, seen from a world. -/
def PSt (w w' : World) (rb : Nat) (st : Option (List UInt8)) : Prop := match st with
  | none => ∃ s, Step w w' rb s true
  | some l => Step w w' rb l false ∧ validD l = true ∧ l.length ≤ 1000000
theorem PSt.grown {w w' : World} {rb : Nat} {st : Option (List UInt8)} (h : PSt w w' rb st) : w.grownBy w' (some rb) := by
  cases st with
  | none => obtain ⟨s, hs⟩ := h; exact hs.grown
  | some l => exact h.1.grown
theorem PSt.trans {a b c : World} {rb : Nat} {s t : Option (List UInt8)} (h : PSt a b rb s) (k : PSt b c rb t) : PSt a c rb t := by
  cases t with
  | none => obtain ⟨x, hx⟩ := k; exact ⟨x, ⟨h.grown.trans hx.grown, hx.at'⟩⟩
  | some l => exact ⟨⟨h.grown.trans k.1.grown, k.1.at'⟩, k.2⟩
theorem PSt.alloc {a b : World} {rb : Nat} {s : Option (List UInt8)} (h : PSt a b rb s) (o : Obj) : PSt a (b.alloc o) rb s := by
  cases s with
  | none => obtain ⟨x, hx⟩ := h; exact ⟨x, hx.alloc o⟩
  | some l => exact ⟨h.1.alloc o, h.2⟩
theorem PSt.other {a b : World} {rb g j : Nat} {s : Option (List UInt8)} (h : PSt a b rb s) (hg : a.heap.size ≤ g) (hne : g ≠ rb) (u : Value) : PSt a (b.setCell ⟨g, j, none⟩ u) rb s := by
  cases s with
  | none => obtain ⟨x, hx⟩ := h; exact ⟨x, hx.other hg hne u⟩
  | some l => exact ⟨h.1.other hg hne u, h.2⟩
/-- Behind a term, ahead of blanks. -/
def PNext (st : Option (List UInt8)) (t : Term) (st' : Option (List UInt8)) : Prop := match st with
  | none => st' = none
  | some s => match term false s with
    | none => st' = none
    | some (t0, q) => t = t0 ∧ st' = some q
theorem PNext.next {st st' : Option (List UInt8)} {t : Term} (h : PNext st t st') : Ref5.Next false st t (st'.map blanks) := by
  cases st with
  | none => unfold PNext at h; subst h; rfl
  | some s =>
    unfold PNext at h
    unfold Ref5.Next
    dsimp only at h ⊢
    cases ht : term false s with
    | none => rw [ht] at h; dsimp only at h; subst h; rfl
    | some p =>
      obtain ⟨t0, q⟩ := p
      rw [ht] at h
      obtain ⟨rfl, rfl⟩ := h
      exact ⟨rfl, rfl⟩
theorem raw_len (l : List UInt8) (t : Term) (q : List UInt8) (h : rawTerm false l = some (t, q)) : q.length ≤ l.length := by
  unfold rawTerm at h
  split at h
  · cases hu : up 62 false false (l.drop 1) with
    | none => rw [hu] at h; cases h
    | some p =>
      obtain ⟨o, r⟩ := p
      rw [hu] at h
      cases h
      have := up_len 62 false false _ (l.drop 1) (Nat.le_refl _) o _ hu
      dsimp only at this ⊢
      rw [List.length_drop] at this
      omega
  · split at h
    · cases h
      have := run_snd_len false (l.drop 2)
      rw [List.length_drop] at this
      omega
    · split at h
      · have : q.length ≤ (l.drop 1).length := by
          rw [literal] at h
          cases hu : up 34 true true (l.drop 1) with
          | none => rw [hu] at h; cases h
          | some p =>
            obtain ⟨x, r⟩ := p
            have h1 := up_len 34 true true _ (l.drop 1) (Nat.le_refl _) x r hu
            rw [hu] at h
            dsimp only at h
            split at h
            · cases h
              have := run_snd_len true (r.drop 1)
              rw [List.length_drop] at this
              omega
            · split at h
              · split at h
                · cases hv : up 62 false false (r.drop 3) with
                  | none => rw [hv] at h; cases h
                  | some p2 =>
                    obtain ⟨e, y⟩ := p2
                    have h2 := up_len 62 false false _ (r.drop 3) (Nat.le_refl _) e y hv
                    rw [hv] at h
                    cases h
                    rw [List.length_drop] at h2
                    dsimp only
                    omega
                · cases h
              · cases h
                omega
        rw [List.length_drop] at this
        omega
      · cases h
theorem term_len (l : List UInt8) (t : Term) (q : List UInt8) (h : term false l = some (t, q)) : q.length ≤ l.length := by
  rw [term] at h
  cases hr : rawTerm false l with
  | none => rw [hr] at h; cases h
  | some p =>
    obtain ⟨t', q'⟩ := p
    rw [hr] at h
    dsimp only at h
    split at h
    · cases h; exact raw_len l t q hr
    · cases h
/-- A term's parts are small. -/
def FitsX (t : Term) : Prop := Fits t ∧ t.extra.length ≤ 1000000
theorem raw_extra (l : List UInt8) (t : Term) (q : List UInt8) (h : rawTerm false l = some (t, q)) : t.extra.length ≤ l.length := by
  unfold rawTerm at h
  split at h
  · cases hu : up 62 false false (l.drop 1) with
    | none => rw [hu] at h; cases h
    | some p =>
      rw [hu] at h
      cases h
      simp
  · split at h
    · cases h
      simp
    · split at h
      · have := literal_extra (l.drop 1) t q h
        rw [List.length_drop] at this
        omega
      · cases h
theorem term_extra (l : List UInt8) (t : Term) (q : List UInt8) (h : term false l = some (t, q)) : t.extra.length ≤ l.length := by
  rw [term] at h
  cases hr : rawTerm false l with
  | none => rw [hr] at h; cases h
  | some p =>
    obtain ⟨t', q'⟩ := p
    rw [hr] at h
    dsimp only at h
    split at h
    · cases h; exact raw_extra l t q hr
    · cases h
theorem term_any_calls (w0 : World) (rb : Nat) (st : Option (List UInt8)) (w : World) (he : Env w) (hrb : lowB ≤ rb) (h : PSt w0 w rb st) :
    Calls Tryz.prog 29 #[.pointer (some ⟨rb, 0, none⟩)] w fun e w' => ∃ t st', (e = .returned (termV t) ∧ (st' ≠ none → FitsX t)) ∧ (PSt w0 w' rb st' ∧ w.grownBy w' (some rb)) ∧ PNext st t st' := by
  cases st with
  | none =>
    obtain ⟨s, hs⟩ := h
    refine (term_bad_calls rb s w hs.at').mono ?_
    rintro e w' ⟨⟨t, h1⟩, h3⟩
    exact ⟨t, none, ⟨h1, fun h => absurd rfl h⟩, ⟨⟨s, hs.trans h3⟩, h3.grown⟩, rfl⟩
  | some l =>
    obtain ⟨hs, hv, hl⟩ := h
    refine (term_calls rb l hl hv w he hrb hs.at').mono ?_
    intro e w' hp
    unfold PNext
    dsimp only
    cases ht : term false l with
    | none =>
      rw [ht] at hp
      obtain ⟨⟨t, h1⟩, s, h3⟩ := hp
      exact ⟨t, none, ⟨h1, fun h => absurd rfl h⟩, ⟨⟨s, hs.trans h3⟩, h3.grown⟩, rfl⟩
    | some p =>
      obtain ⟨t, q⟩ := p
      rw [ht] at hp
      obtain ⟨⟨h1, h2⟩, h3, h4⟩ := hp
      exact ⟨t, some q, ⟨h1, fun _ => ⟨h2, Nat.le_trans (term_extra l t q ht) hl⟩⟩, ⟨⟨hs.trans h3, h4, Nat.le_trans (term_len l t q ht) hl⟩, h3.grown⟩, rfl, rfl⟩
theorem blanks_any_calls (w0 : World) (rb : Nat) (st : Option (List UInt8)) (w : World) (h : PSt w0 w rb st) :
    Calls Tryz.prog 27 #[.pointer (some ⟨rb, 0, none⟩)] w fun e w' => e = .returned (.tuple #[]) ∧ PSt w0 w' rb (st.map blanks) ∧ w.grownBy w' (some rb) := by
  cases st with
  | none =>
    obtain ⟨s, hs⟩ := h
    refine (pblanks_bad_calls rb s w hs.at').mono ?_
    rintro e w' ⟨h1, rfl⟩
    exact ⟨h1, ⟨s, hs⟩, World.grownBy.refl _ _⟩
  | some l =>
    obtain ⟨hs, hv, hl⟩ := h
    refine (pblanks_calls rb l w hs.at').mono ?_
    rintro e w' ⟨h1, h2⟩
    exact ⟨h1, ⟨hs.trans h2, blanks_valid l hv, Nat.le_trans (List.Sublist.length_le (List.dropWhile_sublist _)) hl⟩, h2.grown⟩
theorem over_any_calls (w0 : World) (rb : Nat) (st : Option (List UInt8)) (w : World) (h : PSt w0 w rb st) :
    Calls Tryz.prog 28 #[.pointer (some ⟨rb, 0, none⟩)] w fun e w' => e = .returned (.bool (st.any over)) ∧ w = w' := by
  cases st with
  | none =>
    obtain ⟨s, hs⟩ := h
    exact (over_calls rb s true w hs.at').mono fun e w' h => h
  | some l => exact (over_calls rb l false w h.1.at').mono fun e w' h => h
/-- Behind a dot. -/
def dot (st : Option (List UInt8)) : Option (List UInt8) := match st with
  | none => none
  | some r => if ([46] : List UInt8).isPrefixOf r = true then some (r.drop 1) else none
theorem dot_any_calls (w0 : World) (rb : Nat) (st : Option (List UInt8)) (w : World) (h : PSt w0 w rb st) :
    Calls Tryz.prog 30 #[.pointer (some ⟨rb, 0, none⟩), .string (mkS [46])] w fun e w' => e = .returned (.tuple #[]) ∧ PSt w0 w' rb (dot st) ∧ w.grownBy w' (some rb) := by
  cases st with
  | none =>
    obtain ⟨s, hs⟩ := h
    refine (must_bad_calls rb s [46] w hs.at').mono ?_
    rintro e w' ⟨h1, h2⟩
    exact ⟨h1, ⟨s, hs.trans h2⟩, h2.grown⟩
  | some l =>
    obtain ⟨hs, hv, hl⟩ := h
    refine (must_calls rb l [46] w hs.at').mono ?_
    rintro e w' ⟨h1, h2⟩
    unfold dot
    dsimp only
    cases hp : ([46] : List UInt8).isPrefixOf l with
    | true =>
      rw [hp] at h2
      exact ⟨h1, ⟨hs.trans h2, valid_drop [46] (by decide) l hp hv, by simp; omega⟩, h2.grown⟩
    | false =>
      rw [hp] at h2
      exact ⟨h1, ⟨_, hs.trans h2⟩, h2.grown⟩
end Go.Proofs.YtmcoloapiiakbaaGreatDoor.Prg
