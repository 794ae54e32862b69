/-
  What the program's reader of lines answers.
-/
import Derived.Test.YtmcoloapiiakbaaGreatDoorBld
import Derived.Test.YtmcoloapiiakbaaGreatDoorLinesPure
import Derived.RegionTactic
import Derived.Deep.RegionHeld3
import Derived.StillTailTactics
set_option linter.unusedVariables false
set_option linter.unusedSimpArgs false
namespace Go.Proofs.YtmcoloapiiakbaaGreatDoor.Prg
open Go.RowKit Go.Lib Go.Proofs.YtmcoloapiiakbaaGreatDoor.B Go.Proofs.YtmcoloapiiakbaaGreatDoor.Rd Go.Proofs.YtmcoloapiiakbaaGreatDoor.Utf Go.Proofs.YtmcoloapiiakbaaGreatDoor.TermPure Go.Proofs.YtmcoloapiiakbaaGreatDoor.LinesPure Go.Proofs.YtmcoloapiiakbaaGreatDoor.Tx Go.Proofs.YtmcoloapiiakbaaGreatDoor.Env Go.Proofs.YtmcoloapiiakbaaGreatDoor.Bld

theorem runeLen_calls (r : Int) (w : World) : Calls Tryz.prog 127 #[.int .i32 r] w fun e w' => e = .returned (.int .i64 (Lib.runeLen r)) ∧ w = w' :=
  (Tryz.utf8_RuneLen r w).mono fun e w' ⟨h1, h2⟩ => ⟨h1, h2.symm⟩
theorem validRune_calls (r : Int) (w : World) : Calls Tryz.prog 142 #[.int .i32 r] w fun e w' => e = .returned (.bool (Lib.validRune r)) ∧ w = w' :=
  (Tryz.utf8_ValidRune r w).mono fun e w' ⟨h1, h2⟩ => ⟨h1, h2.symm⟩
theorem next_calls (rb : Nat) (l : List UInt8) (hne : l ≠ []) (w : World) (he : Env w) (h : At w rb l false) :
    Calls Tryz.prog 53 #[.pointer (some ⟨rb, 0, none⟩)] w fun e w' => e = .returned (.int .i32 ((decodeL l).1 : Nat)) ∧ Below w.heap.size w w' := by
  obtain ⟨c0, c1, f0, f1, len⟩ := h
  have HE := Lib.hid he
  have z := mkS_toList l
  have hE : l.isEmpty = false := by cases l with
    | nil => exact absurd rfl hne
    | cons b t => rfl
  have hE' : ¬ l = [] := hne
  clear he
  go_enter Tryz.func53, Tryz.ntmps53
  go_wp2_with fail
  refine (decode_calls l hne _ HE.out).mono ?_
  rintro e w1 ⟨rfl, hb1⟩
  have HB1 := Lib.hid hb1
  clear hb1
  go_wp2
  go_ret
  exact ⟨rfl, HB1.out⟩
theorem next_end_calls (rb : Nat) (l : List UInt8) (bad : Bool) (hb : bad = true ∨ l = []) (w : World) (h : At w rb l bad) :
    Calls Tryz.prog 53 #[.pointer (some ⟨rb, 0, none⟩)] w fun e w' => e = .returned (.int .i32 (-1)) ∧ w = w' := by
  obtain ⟨c0, c1, f0, f1, len⟩ := h
  have z := mkS_toList l
  cases bad with
  | true =>
    clear hb
    go_enter Tryz.func53, Tryz.ntmps53
    go_wp2
    go_ret
    exact ⟨rfl, rfl⟩
  | false =>
    obtain rfl : l = [] := by rcases hb with h | h; cases h; exact h
    clear hb
    go_enter Tryz.func53, Tryz.ntmps53
    go_wp2
    go_ret
    exact ⟨rfl, rfl⟩
theorem rune_len (l : List UInt8) (hne : l ≠ []) (hv : validD l = true) : Lib.runeLen ((decodeL l).1 : Nat) = ((decodeL l).2 : Nat) ∧ (decodeL l).1 ≤ 1114111 ∧ (decodeL l).2 ≤ l.length ∧ validD (l.drop (decodeL l).2) = true := by
  rcases Utf.step l hne hv with ⟨b, t, rfl, hb, hd, ht⟩ | ⟨ch, t, c, hc⟩
  · rw [hd]
    refine ⟨?_, by simp; omega, by simp, by simpa using ht⟩
    unfold Lib.runeLen
    dsimp only
    repeat' split
    all_goals omega
  · rw [hc.dec]
    refine ⟨hc.rlen, hc.le, ?_, ?_⟩
    · rw [hc.eq]; simp
    · have := hc.rest
      rw [hc.eq, List.drop_left]
      exact this
theorem take_end_calls (rb : Nat) (l : List UInt8) (bad : Bool) (hb : bad = true ∨ l = []) (w : World) (h : At w rb l bad) :
    Calls Tryz.prog 109 #[.pointer (some ⟨rb, 0, none⟩)] w fun e w' => e = .returned (.int .i32 (-1)) ∧ Step w w' rb l true := by
  have HA := Lib.hid h
  have HS := Lib.hid (Step.refl h)
  obtain ⟨c0, c1, f0, f1, len⟩ := h
  go_enter Tryz.func109, Tryz.ntmps109
  go_wp2_with fail
  refine (next_end_calls rb l bad hb _ HA.out).mono ?_
  rintro e w1 ⟨rfl, rfl⟩
  go_wp2
  go_ret
  exact ⟨rfl, HS.out.set1 true⟩
set_option maxHeartbeats 1600000 in
theorem take_calls (rb : Nat) (l : List UInt8) (hne : l ≠ []) (hv : validD l = true) (w : World) (he : Env w) (h : At w rb l false) :
    Calls Tryz.prog 109 #[.pointer (some ⟨rb, 0, none⟩)] w fun e w' => e = .returned (.int .i32 ((decodeL l).1 : Nat)) ∧ Step w w' rb (l.drop (decodeL l).2) false := by
  have HA := Lib.hid h
  have HE := Lib.hid he
  have HS := Lib.hid (Step.refl h)
  obtain ⟨r1, r2, r3, r4⟩ := rune_len l hne hv
  have hlen := h.len
  have HX : Hid ((mkS l).extract (decodeL l).2 l.length = mkS (l.drop (decodeL l).2)) := Lib.hid (by rw [mkS_extract, List.take_of_length_le (by simp)])
  have HR := Lib.hid r1
  have HD : Hid ((l.drop (decodeL l).2).length ≤ l.length) := Lib.hid (by simp)
  have HNx := Lib.hid (next_calls rb l hne)
  clear hv he h r1 r4 hne
  generalize (decodeL l).1 = c at *
  generalize (decodeL l).2 = k at *
  have z := mkS_size l
  go_enter Tryz.func109, Tryz.ntmps109
  go_wp2_with fail
  refine (HNx.out _ HE.out HA.out).mono ?_
  rintro e w1 ⟨rfl, hb1⟩
  have HS1 := Lib.hid (HS.out.below hb1)
  have hc1 : ((c : Int) == -1) = false := by rw [beq_eq_false_iff_ne]; omega
  obtain ⟨c0, c1, f0, f1, _⟩ := HS1.out.at'
  clear hb1
  go_wp2_with fail
  go_region_with (go_at_call 127; refine (runeLen_calls _ _).mono ?_; rintro e w2 ⟨rfl, rfl⟩; rw [HR.out])
  all_goals go_wp2
  all_goals go_ret
  all_goals exact ⟨rfl, by rw [HX.out]; exact (HS1.out.set0 (by have := HD.out; omega)).drew⟩
theorem is_calls (rb : Nat) (l p : List UInt8) (w : World) (h : At w rb l false) :
    Calls Tryz.prog 55 #[.pointer (some ⟨rb, 0, none⟩), .string (mkS p)] w fun e w' => e = .returned (.bool (p.isPrefixOf l)) ∧ Step w w' rb (if p.isPrefixOf l then l.drop p.length else l) false := by
  have HS := Lib.hid (Step.refl h)
  have hlen := h.len
  have HC := Lib.hid (cutPrefix_calls l p)
  have HQ : Hid ((if p.isPrefixOf l = true then l.drop p.length else l).length ≤ l.length) := Lib.hid (by split <;> simp)
  have HN : Hid (p.isPrefixOf l = false → (if p.isPrefixOf l = true then l.drop p.length else l) = l) := Lib.hid (fun h => by rw [h]; rfl)
  obtain ⟨c0, c1, f0, f1, _⟩ := h
  generalize (if p.isPrefixOf l = true then l.drop p.length else l) = q at *
  generalize p.isPrefixOf l = b at *
  go_enter Tryz.func55, Tryz.ntmps55
  go_wp2_with fail
  refine (HC.out _).mono ?_
  rintro e w1 ⟨rfl, rfl⟩
  clear HC
  cases b with
  | true =>
    go_wp2
    go_ret
    exact ⟨rfl, HS.out.set0 (by have := HQ.out; omega)⟩
  | false =>
    go_wp2
    go_ret
    exact ⟨rfl, by have hq := HN.out (by first | rfl | trivial); subst hq; exact HS.out⟩
theorem is_bad_calls (rb : Nat) (l p : List UInt8) (w : World) (h : At w rb l true) :
    Calls Tryz.prog 55 #[.pointer (some ⟨rb, 0, none⟩), .string (mkS p)] w fun e w' => e = .returned (.bool false) ∧ w = w' := by
  obtain ⟨c0, c1, f0, f1, _⟩ := h
  go_enter Tryz.func55, Tryz.ntmps55
  go_wp2_with fail
  refine (cutPrefix_calls l p _).mono ?_
  rintro e w1 ⟨rfl, rfl⟩
  generalize (if p.isPrefixOf l = true then l.drop p.length else l) = q
  generalize p.isPrefixOf l = b
  cases b
  all_goals go_wp2
  all_goals go_ret
  all_goals exact ⟨rfl, rfl⟩
theorem must_calls (rb : Nat) (l p : List UInt8) (w : World) (h : At w rb l false) :
    Calls Tryz.prog 30 #[.pointer (some ⟨rb, 0, none⟩), .string (mkS p)] w fun e w' => e = .returned (.tuple #[]) ∧ Step w w' rb (if p.isPrefixOf l then l.drop p.length else l) (!p.isPrefixOf l) := by
  have HC := Lib.hid (is_calls rb l p w h)
  clear h
  generalize (if p.isPrefixOf l = true then l.drop p.length else l) = q at *
  generalize p.isPrefixOf l = b at *
  go_enter Tryz.func30, Tryz.ntmps30
  go_wp2_with fail
  refine HC.out.mono ?_
  rintro e w1 ⟨rfl, hs1⟩
  have HS := Lib.hid hs1
  obtain ⟨c0, c1, f0, f1, _⟩ := hs1.at'
  clear hs1 HC
  cases b
  · go_wp2
    go_end0
    exact ⟨rfl, HS.out.set1 true⟩
  · go_wp2
    go_end0
    exact ⟨rfl, HS.out⟩
theorem must_bad_calls (rb : Nat) (l p : List UInt8) (w : World) (h : At w rb l true) :
    Calls Tryz.prog 30 #[.pointer (some ⟨rb, 0, none⟩), .string (mkS p)] w fun e w' => e = .returned (.tuple #[]) ∧ Step w w' rb l true := by
  have HA := Lib.hid h
  have HS := Lib.hid (Step.refl h)
  obtain ⟨c0, c1, f0, f1, _⟩ := h
  go_enter Tryz.func30, Tryz.ntmps30
  go_wp2_with fail
  refine (is_bad_calls rb l p _ HA.out).mono ?_
  rintro e w1 ⟨rfl, rfl⟩
  go_wp2
  go_end0
  exact ⟨rfl, HS.out.set1 true⟩
theorem blanks_eq (l : List UInt8) : l.dropWhile (([32, 9] : List UInt8).contains ·) = blanks l := by
  unfold blanks
  congr 1
  funext b
  unfold LinesPure.blank
  show (b == 32 || (b == 9 || false)) = _
  rw [Bool.or_false]
theorem pblanks_calls (rb : Nat) (l : List UInt8) (w : World) (h : At w rb l false) :
    Calls Tryz.prog 27 #[.pointer (some ⟨rb, 0, none⟩)] w fun e w' => e = .returned (.tuple #[]) ∧ Step w w' rb (blanks l) false := by
  have HS := Lib.hid (Step.refl h)
  have hlen := h.len
  have hc := fun w => trimLeft_calls l [32, 9] (by decide) (by decide) w
  rw [blanks_eq] at hc
  have HC := Lib.hid hc
  have hql : (blanks l).length ≤ l.length := List.Sublist.length_le (List.dropWhile_sublist _)
  obtain ⟨c0, c1, f0, f1, _⟩ := h
  clear hc
  generalize blanks l = q at *
  go_enter Tryz.func27, Tryz.ntmps27
  go_wp2_with fail
  refine (HC.out _).mono ?_
  rintro e w1 ⟨rfl, hb1⟩
  have HS1 := Lib.hid (HS.out.below hb1)
  obtain ⟨c0, c1, f0, f1, _⟩ := HS1.out.at'
  clear hb1 HC
  go_wp2
  go_end0
  exact ⟨rfl, HS1.out.set0 (by omega)⟩
theorem pblanks_bad_calls (rb : Nat) (l : List UInt8) (w : World) (h : At w rb l true) :
    Calls Tryz.prog 27 #[.pointer (some ⟨rb, 0, none⟩)] w fun e w' => e = .returned (.tuple #[]) ∧ w = w' := by
  obtain ⟨c0, c1, f0, f1, _⟩ := h
  go_enter Tryz.func27, Tryz.ntmps27
  go_wp2
  go_end0
  exact ⟨rfl, rfl⟩
theorem over_calls (rb : Nat) (l : List UInt8) (bad : Bool) (w : World) (h : At w rb l bad) :
    Calls Tryz.prog 28 #[.pointer (some ⟨rb, 0, none⟩)] w fun e w' => e = .returned (.bool (!bad && over l)) ∧ w = w' := by
  obtain ⟨c0, c1, f0, f1, _⟩ := h
  cases bad with
  | true =>
    go_enter Tryz.func28, Tryz.ntmps28
    go_wp2
    go_ret
    exact ⟨rfl, rfl⟩
  | false =>
    cases l with
    | nil =>
      have z := mkS_toList []
      go_enter Tryz.func28, Tryz.ntmps28
      go_wp2
      go_ret
      exact ⟨rfl, rfl⟩
    | cons b t =>
      have z1 : (mkS (b :: t)).toList = b :: t := mkS_toList _
      have z := mkS_size (b :: t)
      have hk : 0 < (mkS (b :: t)).size := by rw [z]; simp
      have hg : (mkS (b :: t))[0]'hk = b := rfl
      have hE : (b :: t).isEmpty = false := rfl
      have hE' : ¬ (b :: t) = [] := by simp
      have zl : 0 < (b :: t).length := by simp
      have HO : Hid (over (b :: t) = ((b.toNat : Int) == 35)) := Lib.hid (by
        rw [over]
        simp [List.isPrefixOf]
        rw [Bool.eq_iff_iff, beq_iff_eq, beq_iff_eq]
        constructor
        · rintro rfl; rfl
        · intro h; exact UInt8.toNat_inj.1 (by show 35 = b.toNat; omega))
      generalize (b :: t : List UInt8) = L at *
      obtain ⟨q, hq⟩ : ∃ q : Bool, ((b.toNat : Int) == 35) = q := ⟨_, rfl⟩
      rw [hq] at HO
      go_enter Tryz.func28, Tryz.ntmps28
      go_wp2
      go_ret
      exact ⟨ret_bool (by rw [HO.out]; rfl), rfl⟩
/-- A digit of a rune. -/
def digI (c : Int) : Int := if 48 ≤ c ∧ c ≤ 57 then c - 48 else if 97 ≤ c ∧ c ≤ 102 then c - 87 else if 65 ≤ c ∧ c ≤ 70 then c - 55 else -1
theorem digit_calls (c : Int) (h0 : -1 ≤ c) (h1 : c ≤ 1114111) (w : World) :
    Calls Tryz.prog 143 #[.int .i32 c] w fun e w' => e = .returned (.int .i32 (digI c)) ∧ w = w' := by
  have HD : Hid (digI c = if 48 ≤ c ∧ c ≤ 57 then c - 48 else if 97 ≤ c ∧ c ≤ 102 then c - 87 else if 65 ≤ c ∧ c ≤ 70 then c - 55 else -1) := Lib.hid rfl
  go_enter Tryz.func143, Tryz.ntmps143
  go_wp2
  all_goals go_ret
  all_goals exact ⟨ret_int (by rw [HD.out]; repeat' split; all_goals omega), rfl⟩
theorem plain_calls (c : Nat) (h1 : c ≤ 1114111) (w : World) :
    Calls Tryz.prog 57 #[.int .i32 (c : Int)] w fun e w' => e = .returned (.bool (alnum c)) ∧ w = w' := by
  have HD : Hid (alnum c = true ↔ (97 ≤ c ∧ c ≤ 122) ∨ (65 ≤ c ∧ c ≤ 90) ∨ (48 ≤ c ∧ c ≤ 57)) := Lib.hid (by unfold alnum; simp [or_assoc])
  go_enter Tryz.func57, Tryz.ntmps57
  go_wp2
  all_goals go_ret
  all_goals exact ⟨ret_bool (by rw [Bool.eq_iff_iff, HD.out]; simp; omega), rfl⟩
end Go.Proofs.YtmcoloapiiakbaaGreatDoor.Prg
