/-
  What the reference of lines answers: its reader.
-/
import Derived.Test.YtmcoloapiiakbaaGreatDoorRef4
import Derived.Test.YtmcoloapiiakbaaGreatDoorRd
set_option linter.unusedVariables false
set_option linter.unusedSimpArgs false
namespace Go.Proofs.YtmcoloapiiakbaaGreatDoor.Ref5
open Go.RowKit Go.Lib Go.Proofs.YtmcoloapiiakbaaGreatDoor.B Go.Proofs.YtmcoloapiiakbaaGreatDoor.Ref4 Go.Proofs.YtmcoloapiiakbaaGreatDoor.Rd Go.Proofs.YtmcoloapiiakbaaGreatDoor.Utf Go.Proofs.YtmcoloapiiakbaaGreatDoor.TermPure Go.Proofs.YtmcoloapiiakbaaGreatDoor.LinesPure

theorem isPrefixOf_take (p s : List UInt8) (h : p.length ≤ s.length) : (s.take p.length == p) = p.isPrefixOf s := by
  rw [Bool.eq_iff_iff, beq_iff_eq, List.isPrefixOf_iff_prefix, List.prefix_iff_eq_take]
  exact ⟨fun e => e.symm, fun e => e.symm⟩
theorem not_prefix (p s : List UInt8) (h : ¬ p.length ≤ s.length) : p.isPrefixOf s = false := by
  rw [Bool.eq_false_iff]
  intro e
  rw [List.isPrefixOf_iff_prefix] at e
  exact h e.length_le
set_option maxHeartbeats 800000 in
theorem has_calls (rb : Nat) (s p : List UInt8) (bad : Bool) (hp : p.length ≤ 100) (w : World) (h : At w rb s bad) :
    Calls Tryz.prog 32 #[.pointer (some ⟨rb, 0, none⟩), .string (mkS p)] w fun e w' => e = .returned (.bool (p.isPrefixOf s)) ∧ w = w' := by
  obtain ⟨c0, c1, f0, f1, len⟩ := h
  have z1 := mkS_size s
  have z2 := mkS_size p
  have y1 := Lib.hid (mkS_extract s 0 p.length)
  by_cases hl : p.length ≤ s.length
  · go_enter Tryz.func32, Tryz.ntmps32
    go_wp2
    go_ret
    exact ⟨ret_bool (by rw [y1.out, mkS_toList, mkS_toList, List.drop_zero, Nat.sub_zero]; exact isPrefixOf_take p s hl), rfl⟩
  · have hn := Lib.hid (not_prefix p s hl)
    go_enter Tryz.func32, Tryz.ntmps32
    go_wp2
    go_ret
    exact ⟨ret_bool hn.out.symm, rfl⟩
theorem fail_calls (rb : Nat) (s : List UInt8) (bad : Bool) (w : World) (h : At w rb s bad) :
    Calls Tryz.prog 62 #[.pointer (some ⟨rb, 0, none⟩)] w fun e w' => e = .returned (.tuple #[]) ∧ Step w w' rb [] true := by
  have h' := h
  obtain ⟨c0, c1, f0, f1, len⟩ := h
  go_enter Tryz.func62, Tryz.ntmps62
  go_wp2
  go_end0
  exact ⟨rfl, ((Step.refl h').set0 (t := []) (by simp)).set1 true⟩

/-- What is left behind blanks. -/
theorem blanks_cons (b : UInt8) (l : List UInt8) (h : LinesPure.blank b = true) : blanks (b :: l) = blanks l := by
  rw [blanks, blanks, List.dropWhile_cons, if_pos h]
theorem blanks_stop (b : UInt8) (l : List UInt8) (h : LinesPure.blank b = false) : blanks (b :: l) = b :: l := by
  rw [blanks, List.dropWhile_cons, h]
  rfl
theorem blank_yes (b : UInt8) (h : (b.toNat : Int) = 32 ∨ (b.toNat : Int) = 9) : LinesPure.blank b = true := by
  rw [LinesPure.blank, Bool.or_eq_true, beq_iff_eq, beq_iff_eq]
  rcases h with h | h
  · exact .inl (UInt8.toNat_inj.1 (by simp; omega))
  · exact .inr (UInt8.toNat_inj.1 (by simp; omega))
theorem blank_no (b : UInt8) (h : (b.toNat : Int) ≠ 32) (h' : (b.toNat : Int) ≠ 9) : LinesPure.blank b = false := by
  rw [LinesPure.blank, Bool.or_eq_false_iff, beq_eq_false_iff_ne, beq_eq_false_iff_ne]
  exact ⟨fun e => h (by rw [e]; rfl), fun e => h' (by rw [e]; rfl)⟩
set_option maxHeartbeats 800000 in
theorem blanks_calls (rb : Nat) (s : List UInt8) (bad : Bool) (w : World) (h : At w rb s bad) :
    Calls Tryz.prog 31 #[.pointer (some ⟨rb, 0, none⟩)] w fun e w' => e = .returned (.tuple #[]) ∧ Step w w' rb (blanks s) bad := by
  have h' := Lib.hid h
  clear h
  go_enter Tryz.func31, Tryz.ntmps31
  go_wp2
  go_loopg [] s.length (fun k wr => ∃ l : List UInt8, l.length = k ∧ Hid (Step w wr rb l bad) ∧ Hid (blanks l = blanks s))
  case atStart => exact ⟨s, rfl, Lib.hid (Step.refl h'.out), Lib.hid rfl⟩
  case round =>
    obtain ⟨l, hl0, HS, HB⟩ := hrel
    have hl := Lib.hid hl0
    clear hl0
    obtain ⟨c0, c1, f0, f1, len⟩ := HS.out.at'
    have z := mkS_size l
    cases l with
    | nil =>
      have z1 : (mkS ([] : List UInt8)).toList = [] := mkS_toList []
      clear h'
      go_wp2
      go_end0
      exact ⟨rfl, by rw [← HB.out]; exact HS.out⟩
    | cons b t =>
      have z1 : (mkS (b :: t)).toList = b :: t := mkS_toList _
      have hk : 0 < (mkS (b :: t)).size := by rw [z]; simp
      have hg : (mkS (b :: t))[0]'hk = b := rfl
      have hx : (mkS (b :: t)).extract 1 (b :: t).length = mkS t := by rw [mkS_extract]; simp
      have hn : (1 : Int) ≤ ((b :: t).length : Int) := by simp; omega
      have hE : (b :: t).isEmpty = false := rfl
      have hE' : ¬ (b :: t) = [] := by simp
      have HT : Hid (LinesPure.blank b = true → blanks t = blanks s) := Lib.hid (fun h => by rw [← HB.out, blanks_cons b t h])
      have HN : Hid (LinesPure.blank b = false → blanks s = b :: t) := Lib.hid (fun h => by rw [← HB.out, blanks_stop b t h])
      have HL : Hid (t.length ≤ 70368744177664 ∧ t.length < gk) := Lib.hid (by rw [← hl.out]; simp at len ⊢; omega)
      generalize hL : (b :: t : List UInt8) = L at *
      have HB1 := Lib.hid hL
      clear h' hL
      by_cases a1 : (b.toNat : Int) = 32
      · have e1 : ((b.toNat : Int) == 32) = true := by rw [beq_iff_eq]; exact a1
        have HB2 := Lib.hid (HT.out (blank_yes b (.inl a1)))
        clear a1
        go_wp2
        go_roundg t.length
        case measure => exact HL.out.2
        case rel => exact ⟨t, rfl, Lib.hid (HS.out.set0 HL.out.1), HB2⟩
      · have e1 : ((b.toNat : Int) == 32) = false := by rw [beq_eq_false_iff_ne]; exact a1
        by_cases a2 : (b.toNat : Int) = 9
        · have e2 : ((b.toNat : Int) == 9) = true := by rw [beq_iff_eq]; exact a2
          have HB2 := Lib.hid (HT.out (blank_yes b (.inr a2)))
          clear a1 a2
          go_wp2
          go_roundg t.length
          case measure => exact HL.out.2
          case rel => exact ⟨t, rfl, Lib.hid (HS.out.set0 HL.out.1), HB2⟩
        · have e2 : ((b.toNat : Int) == 9) = false := by rw [beq_eq_false_iff_ne]; exact a2
          have HB2 := Lib.hid (HN.out (blank_no b a1 a2))
          clear a1 a2
          go_wp2
          go_end0
          exact ⟨rfl, by rw [HB2.out]; exact HS.out⟩

theorem tw_of (p : UInt8 → Bool) (s : List UInt8) (k : Nat) (hk : k ≤ s.length) (hall : (s.take k).all p = true) (hstop : ∀ h : k < s.length, p s[k] = false) :
    s.takeWhile p = s.take k ∧ s.dropWhile p = s.drop k := by
  induction s generalizing k with
  | nil => simp
  | cons b t ih =>
    cases k with
    | zero =>
      have := hstop (by simp)
      simp at this
      simp [List.takeWhile_cons, List.dropWhile_cons, this]
    | succ k =>
      simp at hall
      have hb := hall.1
      have := ih k (by simpa using hk) (by simpa using hall.2) (fun h => by have := hstop (by simp; omega); simpa using this)
      simp [List.takeWhile_cons, List.dropWhile_cons, hb, this.1, this.2]
theorem run_eq (dash : Bool) (l : List UInt8) : run dash l = (l.takeWhile (inRun dash), l.dropWhile (inRun dash)) := rfl
theorem byte_beq (b : UInt8) (n : Nat) (hn : n < 256) : (b == UInt8.ofNat n) = ((b.toNat : Int) == (n : Int)) := by
  rw [Bool.eq_iff_iff, beq_iff_eq, beq_iff_eq]
  constructor
  · rintro rfl
    simp
    omega
  · intro h
    apply UInt8.toNat_inj.1
    simp
    omega
set_option maxHeartbeats 1600000 in
theorem run_calls (rb : Nat) (s : List UInt8) (bad dash : Bool) (w : World) (h : At w rb s bad) :
    Calls Tryz.prog 60 #[.pointer (some ⟨rb, 0, none⟩), .bool dash] w fun e w' => e = .returned (.string (mkS (run dash s).1)) ∧ Step w w' rb (run dash s).2 bad := by
  have h' := Lib.hid h
  obtain ⟨c0, c1, f0, f1, len⟩ := h
  have z := mkS_size s
  go_enter Tryz.func60, Tryz.ntmps60
  go_wp2
  go_loopw [5] (fun vi wr => ∃ k : Nat, k ≤ s.length ∧ vi = .int .i64 k ∧ wr = w ∧ Hid ((s.take k).all (inRun dash) = true)) (fun vi _ => s.length - (intOf vi).toNat)
  case atStart => exact ⟨0, by omega, rfl, rfl, Lib.hid rfl⟩
  case round =>
    obtain ⟨k, hk, rfl, rfl, HA⟩ := hrel
    have HX : Hid ((mkS s).extract k s.length = mkS (s.drop k)) := Lib.hid (by rw [mkS_extract, List.take_of_length_le (by simp)])
    have HY : Hid ((mkS s).extract 0 k = mkS (s.take k)) := Lib.hid (by rw [mkS_extract]; simp)
    have HD : Hid ((s.drop k).length ≤ 70368744177664) := Lib.hid (by rw [List.length_drop]; omega)
    by_cases hlt : k < s.length
    · have hd : decide (k < s.length) = true := decide_eq_true hlt
      have ik : (k : Int) < (s.length : Int) := by omega
      have ik0 : (0 : Int) ≤ (k : Int) := by omega
      obtain ⟨b, hb0⟩ : ∃ b, s[k] = b := ⟨_, rfl⟩
      have hks : k < (mkS s).size := by rw [z]; exact hlt
      have hg : (mkS s)[k]'hks = b := (Rd.mkS_get s k hks hlt).trans hb0
      have hgl : Hid (s.take (k + 1) = s.take k ++ [b]) := Lib.hid (by rw [List.take_succ_eq_append_getElem hlt, hb0])
      have HN : Hid (inRun dash b = false → s.takeWhile (inRun dash) = s.take k ∧ s.dropWhile (inRun dash) = s.drop k) :=
        Lib.hid (fun hf => tw_of _ s k hk HA.out (fun h => by rw [hb0]; exact hf))
      have HY1 : Hid (inRun dash b = true → (s.take (k + 1)).all (inRun dash) = true) := Lib.hid (fun ht => by rw [hgl.out, List.all_append, HA.out]; simp [ht])
      have HI : Hid (inRun dash b = (alnum b.toNat || (dash && ((b.toNat : Int) == 45)))) := Lib.hid (by rw [inRun, show (b == 45) = ((b.toNat : Int) == 45) from byte_beq b 45 (by decide)])
      clear hb0 HA hgl
      go_wp2_with fail
      refine (alnum_calls b _).mono ?_
      rintro e w1 ⟨rfl, rfl⟩
      cases hb : alnum b.toNat with
      | true =>
        have HR := Lib.hid (HY1.out (by rw [HI.out, hb]; rfl))
        go_wp2
        go_roundw
        case rel => exact ⟨k + 1, by omega, by go_num, by first | rfl | trivial, HR⟩
        case measure => simp [intOf]; omega
      | false => 
        cases dash with
        | false =>
          have HR := Lib.hid (HN.out (by rw [HI.out, hb]; rfl))
          go_wp2
          go_ret
          exact ⟨ret_str (HY.out.trans (by rw [run_eq, HR.out.1])), by rw [run_eq]; dsimp only; rw [HR.out.2]; have := (Step.refl h'.out).set0 (t := s.drop k) HD.out; rw [← HX.out] at this; exact this⟩
        | true =>
          cases hc : ((b.toNat : Int) == 45) with
          | true =>
            have HR := Lib.hid (HY1.out (by rw [HI.out, hb, hc]; rfl))
            go_wp2
            go_roundw
            case rel => exact ⟨k + 1, by omega, by go_num, by first | rfl | trivial, HR⟩
            case measure => simp [intOf]; omega
          | false =>
            have HR := Lib.hid (HN.out (by rw [HI.out, hb, hc]; rfl))
            go_wp2
            go_ret
            exact ⟨ret_str (HY.out.trans (by rw [run_eq, HR.out.1])), by rw [run_eq]; dsimp only; rw [HR.out.2]; have := (Step.refl h'.out).set0 (t := s.drop k) HD.out; rw [← HX.out] at this; exact this⟩
    · have hd : decide (k < s.length) = false := decide_eq_false hlt
      have HR := Lib.hid (tw_of (inRun dash) s k hk HA.out (fun h => absurd h hlt))
      go_wp2
      go_ret
      exact ⟨ret_str (HY.out.trans (by rw [run_eq, HR.out.1])), by rw [run_eq]; dsimp only; rw [HR.out.2]; have := (Step.refl h'.out).set0 (t := s.drop k) HD.out; rw [← HX.out] at this; exact this⟩
end Go.Proofs.YtmcoloapiiakbaaGreatDoor.Ref5
