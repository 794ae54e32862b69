/-
  How the reference shows terms and sets them in order.
-/
import Derived.Test.YtmcoloapiiakbaaGreatDoorCmp
set_option linter.unusedVariables false
set_option linter.unusedSimpArgs false
namespace Go.Proofs.YtmcoloapiiakbaaGreatDoor.RefCmp
open Go.RowKit Go.Lib Go.Proofs.YtmcoloapiiakbaaGreatDoor.B Go.Proofs.YtmcoloapiiakbaaGreatDoor.Rd Go.Proofs.YtmcoloapiiakbaaGreatDoor.Utf Go.Proofs.YtmcoloapiiakbaaGreatDoor.TermPure Go.Proofs.YtmcoloapiiakbaaGreatDoor.LinesPure Go.Proofs.YtmcoloapiiakbaaGreatDoor.Tx Go.Proofs.YtmcoloapiiakbaaGreatDoor.Env Go.Proofs.YtmcoloapiiakbaaGreatDoor.Tri Go.Proofs.YtmcoloapiiakbaaGreatDoor.SortP Go.Proofs.YtmcoloapiiakbaaGreatDoor.Print Go.Proofs.YtmcoloapiiakbaaGreatDoor.Cmp

def nth (k : Nat) : Nat := [34, 92, 10, 13, 9, 8, 12].getD k 0
theorem one_byte (s : List UInt8) (k : Nat) (h : k < s.length) : (mkS s).extract k (k + 1) = mkS [s[k]] := by
  rw [mkS_extract, show k + 1 - k = 1 by omega, List.drop_eq_getElem_cons h, List.take_succ_cons, List.take_zero]
set_option maxHeartbeats 6400000 in
set_option maxRecDepth 100000 in
theorem escaped_calls (s : List UInt8) (hs : s.length ≤ 1099511627776) (w : World) :
    Calls Tryz.prog 73 #[.string (mkS s)] w fun e w' => e = .returned (.string (mkS (s.flatMap escB))) ∧ Below w.heap.size w w' := by
  have zs := mkS_size s
  go_enter Tryz.func73, Tryz.ntmps73
  go_wp2
  go_loopw [6, 7] (fun vo vi wr => ∃ (k : Nat) (out : List UInt8), k ≤ s.length ∧ vi = .int .i64 k ∧ vo = .string (mkS out) ∧ Hid (out = (s.take k).flatMap escB) ∧ Hid (Below w.heap.size w wr)) (fun _ vi _ => s.length - (intOf vi).toNat)
  case atStart => exact ⟨0, [], by omega, rfl, rfl, Lib.hid rfl, Lib.hid (Below.refl _ _)⟩
  case round =>
    obtain ⟨k, out, hk, rfl, rfl, HO, HW⟩ := hrel
    have zo := mkS_size out
    by_cases hlt : k < s.length
    · have hd : decide (k < s.length) = true := decide_eq_true hlt
      have ik : (k : Int) < (s.length : Int) := by omega
      have hlen : out.length ≤ 6 * s.length := by rw [HO.out]; exact Nat.le_trans (Show.flat_len _) (by rw [List.length_take]; omega)
      have HT := Lib.hid (Show.flat_take s k hlt)
      have H1 := Lib.hid (one_byte s k hlt)
      obtain ⟨b, hb⟩ : ∃ b, s[k] = b := ⟨_, rfl⟩
      have hks : k < (mkS s).size := by rw [zs]; exact hlt
      have hg : (mkS s)[k]'hks = b := (Rd.mkS_get s k hks hlt).trans hb
      rw [hb] at HT H1
      clear hb
      obtain ⟨n, hn⟩ : ∃ n, n = b.toNat := ⟨_, rfl⟩
      have hn256 : n < 256 := by rw [hn]; exact b.toNat_lt
      have HN := Lib.hid hn
      have hbn : b.toNat = n := hn.symm
      clear hn
      have g0 : (⟨#[34, 92, 10, 13, 9, 8, 12]⟩ : ByteArray)[0].toNat = 34 := rfl
      have g1 : (⟨#[34, 92, 10, 13, 9, 8, 12]⟩ : ByteArray)[1].toNat = 92 := rfl
      have g2 : (⟨#[34, 92, 10, 13, 9, 8, 12]⟩ : ByteArray)[2].toNat = 10 := rfl
      have g3 : (⟨#[34, 92, 10, 13, 9, 8, 12]⟩ : ByteArray)[3].toNat = 13 := rfl
      have g4 : (⟨#[34, 92, 10, 13, 9, 8, 12]⟩ : ByteArray)[4].toNat = 9 := rfl
      have g5 : (⟨#[34, 92, 10, 13, 9, 8, 12]⟩ : ByteArray)[5].toNat = 8 := rfl
      have g6 : (⟨#[34, 92, 10, 13, 9, 8, 12]⟩ : ByteArray)[6].toNat = 12 := rfl
      have q1 : (⟨#[92]⟩ : ByteArray).size = 1 := rfl
      have x1 : (mkS out ++ (⟨#[92]⟩ : ByteArray)).size = out.length + 1 := by rw [ByteArray.size_append, zo, q1]
      have q4 : (⟨#[92, 117, 48, 48]⟩ : ByteArray).size = 4 := rfl
      have x4 : (mkS out ++ (⟨#[92, 117, 48, 48]⟩ : ByteArray)).size = out.length + 4 := by rw [ByteArray.size_append, zo, q4]
      go_wp2
      go_loopw [9] (fun v9 wx => ∃ j : Nat, j ≤ 7 ∧ v9 = .int .i64 j ∧ wx = wr ∧ Hid (∀ i, i < j → n ≠ nth i)) (fun v9 _ => 7 - (intOf v9).toNat)
      case atStart => exact ⟨0, by omega, rfl, by first | rfl | trivial, Lib.hid (fun i h => absurd h (by omega))⟩
      case round =>
        obtain ⟨j, hj, rfl, rfl, HJ⟩ := hrel
        have hj8 : j = 0 ∨ j = 1 ∨ j = 2 ∨ j = 3 ∨ j = 4 ∨ j = 5 ∨ j = 6 ∨ j = 7 := by omega
        rcases hj8 with rfl | rfl | rfl | rfl | rfl | rfl | rfl | rfl
        · by_cases e : n = 34
          · have hne : ((34 : Int) != (n : Int)) = false := by rw [bne_eq_false_iff_eq]; omega
            have HE : Hid (escB b = [92, 34]) := Lib.hid (by
              obtain rfl : b = 34 := by apply UInt8.toNat_inj.1; rw [hbn, e]; rfl
              rfl)
            have HX : Hid (mkS out ++ (⟨#[92]⟩ : ByteArray) ++ (⟨#[34, 92, 110, 114, 116, 98, 102]⟩ : ByteArray).extract 0 1 = mkS (out ++ [92, 34])) := Lib.hid (by
              rw [show (⟨#[34, 92, 110, 114, 116, 98, 102]⟩ : ByteArray).extract 0 1 = mkS [34] by decide, mkS_lit, mkS_append, mkS_append]
              simp)
            clear e HJ
            go_wp2
            refine ⟨⟨k + 1, out ++ [92, 34], by omega, by go_num, by first | exact (by rw [← HX.out]; rfl) | rw [HX.out], Lib.hid (by rw [HT.out, ← HO.out, HE.out]), HW⟩, ?_⟩
            simp [intOf]; omega
          · have hne : ((34 : Int) != (n : Int)) = true := by rw [bne_iff_ne]; omega
            have HJ2 : Hid (∀ i, i < 1 → n ≠ nth i) := Lib.hid (fun i hi => by
              by_cases h : i < 0
              · exact HJ.out i h
              · obtain rfl : i = 0 := by omega
                exact e)
            clear e HJ
            go_wp2
            go_roundw
            case rel => exact ⟨1, by omega, by go_num, by first | rfl | trivial, HJ2⟩
            case measure => simp [intOf]
        · by_cases e : n = 92
          · have hne : ((92 : Int) != (n : Int)) = false := by rw [bne_eq_false_iff_eq]; omega
            have HE : Hid (escB b = [92, 92]) := Lib.hid (by
              obtain rfl : b = 92 := by apply UInt8.toNat_inj.1; rw [hbn, e]; rfl
              rfl)
            have HX : Hid (mkS out ++ (⟨#[92]⟩ : ByteArray) ++ (⟨#[34, 92, 110, 114, 116, 98, 102]⟩ : ByteArray).extract 1 2 = mkS (out ++ [92, 92])) := Lib.hid (by
              rw [show (⟨#[34, 92, 110, 114, 116, 98, 102]⟩ : ByteArray).extract 1 2 = mkS [92] by decide, mkS_lit, mkS_append, mkS_append]
              simp)
            clear e HJ
            go_wp2
            refine ⟨⟨k + 1, out ++ [92, 92], by omega, by go_num, by first | exact (by rw [← HX.out]; rfl) | rw [HX.out], Lib.hid (by rw [HT.out, ← HO.out, HE.out]), HW⟩, ?_⟩
            simp [intOf]; omega
          · have hne : ((92 : Int) != (n : Int)) = true := by rw [bne_iff_ne]; omega
            have HJ2 : Hid (∀ i, i < 2 → n ≠ nth i) := Lib.hid (fun i hi => by
              by_cases h : i < 1
              · exact HJ.out i h
              · obtain rfl : i = 1 := by omega
                exact e)
            clear e HJ
            go_wp2
            go_roundw
            case rel => exact ⟨2, by omega, by go_num, by first | rfl | trivial, HJ2⟩
            case measure => simp [intOf]
        · by_cases e : n = 10
          · have hne : ((10 : Int) != (n : Int)) = false := by rw [bne_eq_false_iff_eq]; omega
            have HE : Hid (escB b = [92, 110]) := Lib.hid (by
              obtain rfl : b = 10 := by apply UInt8.toNat_inj.1; rw [hbn, e]; rfl
              rfl)
            have HX : Hid (mkS out ++ (⟨#[92]⟩ : ByteArray) ++ (⟨#[34, 92, 110, 114, 116, 98, 102]⟩ : ByteArray).extract 2 3 = mkS (out ++ [92, 110])) := Lib.hid (by
              rw [show (⟨#[34, 92, 110, 114, 116, 98, 102]⟩ : ByteArray).extract 2 3 = mkS [110] by decide, mkS_lit, mkS_append, mkS_append]
              simp)
            clear e HJ
            go_wp2
            refine ⟨⟨k + 1, out ++ [92, 110], by omega, by go_num, by first | exact (by rw [← HX.out]; rfl) | rw [HX.out], Lib.hid (by rw [HT.out, ← HO.out, HE.out]), HW⟩, ?_⟩
            simp [intOf]; omega
          · have hne : ((10 : Int) != (n : Int)) = true := by rw [bne_iff_ne]; omega
            have HJ2 : Hid (∀ i, i < 3 → n ≠ nth i) := Lib.hid (fun i hi => by
              by_cases h : i < 2
              · exact HJ.out i h
              · obtain rfl : i = 2 := by omega
                exact e)
            clear e HJ
            go_wp2
            go_roundw
            case rel => exact ⟨3, by omega, by go_num, by first | rfl | trivial, HJ2⟩
            case measure => simp [intOf]
        · by_cases e : n = 13
          · have hne : ((13 : Int) != (n : Int)) = false := by rw [bne_eq_false_iff_eq]; omega
            have HE : Hid (escB b = [92, 114]) := Lib.hid (by
              obtain rfl : b = 13 := by apply UInt8.toNat_inj.1; rw [hbn, e]; rfl
              rfl)
            have HX : Hid (mkS out ++ (⟨#[92]⟩ : ByteArray) ++ (⟨#[34, 92, 110, 114, 116, 98, 102]⟩ : ByteArray).extract 3 4 = mkS (out ++ [92, 114])) := Lib.hid (by
              rw [show (⟨#[34, 92, 110, 114, 116, 98, 102]⟩ : ByteArray).extract 3 4 = mkS [114] by decide, mkS_lit, mkS_append, mkS_append]
              simp)
            clear e HJ
            go_wp2
            refine ⟨⟨k + 1, out ++ [92, 114], by omega, by go_num, by first | exact (by rw [← HX.out]; rfl) | rw [HX.out], Lib.hid (by rw [HT.out, ← HO.out, HE.out]), HW⟩, ?_⟩
            simp [intOf]; omega
          · have hne : ((13 : Int) != (n : Int)) = true := by rw [bne_iff_ne]; omega
            have HJ2 : Hid (∀ i, i < 4 → n ≠ nth i) := Lib.hid (fun i hi => by
              by_cases h : i < 3
              · exact HJ.out i h
              · obtain rfl : i = 3 := by omega
                exact e)
            clear e HJ
            go_wp2
            go_roundw
            case rel => exact ⟨4, by omega, by go_num, by first | rfl | trivial, HJ2⟩
            case measure => simp [intOf]
        · by_cases e : n = 9
          · have hne : ((9 : Int) != (n : Int)) = false := by rw [bne_eq_false_iff_eq]; omega
            have HE : Hid (escB b = [92, 116]) := Lib.hid (by
              obtain rfl : b = 9 := by apply UInt8.toNat_inj.1; rw [hbn, e]; rfl
              rfl)
            have HX : Hid (mkS out ++ (⟨#[92]⟩ : ByteArray) ++ (⟨#[34, 92, 110, 114, 116, 98, 102]⟩ : ByteArray).extract 4 5 = mkS (out ++ [92, 116])) := Lib.hid (by
              rw [show (⟨#[34, 92, 110, 114, 116, 98, 102]⟩ : ByteArray).extract 4 5 = mkS [116] by decide, mkS_lit, mkS_append, mkS_append]
              simp)
            clear e HJ
            go_wp2
            refine ⟨⟨k + 1, out ++ [92, 116], by omega, by go_num, by first | exact (by rw [← HX.out]; rfl) | rw [HX.out], Lib.hid (by rw [HT.out, ← HO.out, HE.out]), HW⟩, ?_⟩
            simp [intOf]; omega
          · have hne : ((9 : Int) != (n : Int)) = true := by rw [bne_iff_ne]; omega
            have HJ2 : Hid (∀ i, i < 5 → n ≠ nth i) := Lib.hid (fun i hi => by
              by_cases h : i < 4
              · exact HJ.out i h
              · obtain rfl : i = 4 := by omega
                exact e)
            clear e HJ
            go_wp2
            go_roundw
            case rel => exact ⟨5, by omega, by go_num, by first | rfl | trivial, HJ2⟩
            case measure => simp [intOf]
        · by_cases e : n = 8
          · have hne : ((8 : Int) != (n : Int)) = false := by rw [bne_eq_false_iff_eq]; omega
            have HE : Hid (escB b = [92, 98]) := Lib.hid (by
              obtain rfl : b = 8 := by apply UInt8.toNat_inj.1; rw [hbn, e]; rfl
              rfl)
            have HX : Hid (mkS out ++ (⟨#[92]⟩ : ByteArray) ++ (⟨#[34, 92, 110, 114, 116, 98, 102]⟩ : ByteArray).extract 5 6 = mkS (out ++ [92, 98])) := Lib.hid (by
              rw [show (⟨#[34, 92, 110, 114, 116, 98, 102]⟩ : ByteArray).extract 5 6 = mkS [98] by decide, mkS_lit, mkS_append, mkS_append]
              simp)
            clear e HJ
            go_wp2
            refine ⟨⟨k + 1, out ++ [92, 98], by omega, by go_num, by first | exact (by rw [← HX.out]; rfl) | rw [HX.out], Lib.hid (by rw [HT.out, ← HO.out, HE.out]), HW⟩, ?_⟩
            simp [intOf]; omega
          · have hne : ((8 : Int) != (n : Int)) = true := by rw [bne_iff_ne]; omega
            have HJ2 : Hid (∀ i, i < 6 → n ≠ nth i) := Lib.hid (fun i hi => by
              by_cases h : i < 5
              · exact HJ.out i h
              · obtain rfl : i = 5 := by omega
                exact e)
            clear e HJ
            go_wp2
            go_roundw
            case rel => exact ⟨6, by omega, by go_num, by first | rfl | trivial, HJ2⟩
            case measure => simp [intOf]
        · by_cases e : n = 12
          · have hne : ((12 : Int) != (n : Int)) = false := by rw [bne_eq_false_iff_eq]; omega
            have HE : Hid (escB b = [92, 102]) := Lib.hid (by
              obtain rfl : b = 12 := by apply UInt8.toNat_inj.1; rw [hbn, e]; rfl
              rfl)
            have HX : Hid (mkS out ++ (⟨#[92]⟩ : ByteArray) ++ (⟨#[34, 92, 110, 114, 116, 98, 102]⟩ : ByteArray).extract 6 7 = mkS (out ++ [92, 102])) := Lib.hid (by
              rw [show (⟨#[34, 92, 110, 114, 116, 98, 102]⟩ : ByteArray).extract 6 7 = mkS [102] by decide, mkS_lit, mkS_append, mkS_append]
              simp)
            clear e HJ
            go_wp2
            refine ⟨⟨k + 1, out ++ [92, 102], by omega, by go_num, by first | exact (by rw [← HX.out]; rfl) | rw [HX.out], Lib.hid (by rw [HT.out, ← HO.out, HE.out]), HW⟩, ?_⟩
            simp [intOf]; omega
          · have hne : ((12 : Int) != (n : Int)) = true := by rw [bne_iff_ne]; omega
            have HJ2 : Hid (∀ i, i < 7 → n ≠ nth i) := Lib.hid (fun i hi => by
              by_cases h : i < 6
              · exact HJ.out i h
              · obtain rfl : i = 6 := by omega
                exact e)
            clear e HJ
            go_wp2
            go_roundw
            case rel => exact ⟨7, by omega, by go_num, by first | rfl | trivial, HJ2⟩
            case measure => simp [intOf]
        · have m0 := HJ.out 0 (by omega)
          have m1 := HJ.out 1 (by omega)
          have m2 := HJ.out 2 (by omega)
          have m3 := HJ.out 3 (by omega)
          have m4 := HJ.out 4 (by omega)
          have m5 := HJ.out 5 (by omega)
          have m6 := HJ.out 6 (by omega)
          simp only [nth, List.getD_cons_zero, List.getD_cons_succ] at m0 m1 m2 m3 m4 m5 m6
          by_cases h3 : n < 32 ∨ n = 127
          · have HE := Lib.hid (Show.esc_hex HN.out h3 m5 m4 m2 m6 m3)
            have H1x := Lib.hid (Show.hexS (n / 16) (by omega))
            have H2x := Lib.hid (Show.hexS (n % 16) (by omega))
            have i0 : (0 : Int) ≤ (n : Int) := by omega
            have i1 : (n : Int) ≤ 127 := by omega
            have hor : (decide ((n : Int) < 32) = true) ∨ (decide ((n : Int) < 32) = false ∧ ((n : Int) == 127) = true) := by
              by_cases h : n < 32
              · exact .inl (decide_eq_true (by omega))
              · exact .inr ⟨decide_eq_false (by omega), by rw [beq_iff_eq]; omega⟩
            clear h3 m0 m1 m2 m3 m4 m5 m6 HJ
            rcases hor with d1 | ⟨d1, d2⟩
            all_goals
              go_wp2
              go_quiet (fail)
              go_wp2
              refine ⟨⟨k + 1, out ++ [92, 117, 48, 48, hexD (n / 16), hexD (n % 16)], by omega, by go_num, by rw [H1x.out, H2x.out, mkS_lit, mkS_append, mkS_append, mkS_append]; simp, Lib.hid (by rw [HT.out, ← HO.out, HE.out]), Lib.hid (bel_drewN HW.out _)⟩, ?_⟩
              simp [intOf]; omega
          · have HE := Lib.hid (Show.esc_none HN.out (by omega) (by omega) m0 m1)
            have d1 : decide ((n : Int) < 32) = false := decide_eq_false (by omega)
            have d2 : ((n : Int) == 127) = false := by rw [beq_eq_false_iff_ne]; omega
            clear h3 m0 m1 m2 m3 m4 m5 m6 HJ
            go_wp2
            refine ⟨⟨k + 1, out ++ [b], by omega, by go_num, by rw [H1.out, mkS_append], Lib.hid (by rw [HT.out, ← HO.out, HE.out]), HW⟩, ?_⟩
            simp [intOf]; omega
    · have hd : decide (k < s.length) = false := decide_eq_false hlt
      obtain rfl : k = s.length := by omega
      have HO' : Hid (out = s.flatMap escB) := Lib.hid (by have := HO.out; rwa [List.take_length] at this)
      clear HO
      go_wp2
      go_ret
      exact ⟨ret_str (by rw [HO'.out]), HW.out⟩
end Go.Proofs.YtmcoloapiiakbaaGreatDoor.RefCmp
