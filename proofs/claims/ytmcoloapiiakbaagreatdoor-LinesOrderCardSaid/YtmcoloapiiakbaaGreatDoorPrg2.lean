/-
  What the program's reader of lines answers: escapes.
-/
import Derived.Test.YtmcoloapiiakbaaGreatDoorPrg
set_option linter.unusedVariables false
set_option linter.unusedSimpArgs false
namespace Go.Proofs.YtmcoloapiiakbaaGreatDoor.Prg
open Go.RowKit Go.Lib Go.Proofs.YtmcoloapiiakbaaGreatDoor.B Go.Proofs.YtmcoloapiiakbaaGreatDoor.Rd Go.Proofs.YtmcoloapiiakbaaGreatDoor.Utf Go.Proofs.YtmcoloapiiakbaaGreatDoor.TermPure Go.Proofs.YtmcoloapiiakbaaGreatDoor.LinesPure Go.Proofs.YtmcoloapiiakbaaGreatDoor.Tx Go.Proofs.YtmcoloapiiakbaaGreatDoor.Env Go.Proofs.YtmcoloapiiakbaaGreatDoor.Bld

theorem hexGo_ge : ∀ (n v : Nat) (l : List UInt8) (x : Nat) (r : List UInt8), hexGo n v l = some (x, r) → v ≤ x
  | 0, v, l, x, r, h => by rw [hexGo] at h; cases h; exact Nat.le_refl _
  | n + 1, v, [], x, r, h => by rw [hexGo] at h; cases h
  | n + 1, v, b :: l, x, r, h => by
    rw [hexGo] at h
    cases hb : hexV b with
    | none => rw [hb] at h; cases h
    | some d =>
      rw [hb] at h
      have := hexGo_ge n _ l x r h
      omega
theorem rune_big (n v : Nat) (l : List UInt8) (hv : 1114111 < v) : rune (hexGo n v l) = none := by
  cases h : hexGo n v l with
  | none => rfl
  | some p =>
    obtain ⟨x, r⟩ := p
    have := hexGo_ge n v l x r h
    rw [rune, if_neg]
    unfold Lib.validRune
    rw [decide_eq_true_iff]
    omega
theorem hexV_high (b : UInt8) (h : 128 ≤ b.toNat) : hexV b = none := by rw [hexV, if_neg (by omega), if_neg (by omega), if_neg (by omega)]
theorem dig_step (q : List UInt8) (hne : q ≠ []) (hv : validD q = true) (m v : Nat) :
    (digI ((decodeL q).1 : Nat) = -1 ∧ hexGo (m + 1) v q = none) ∨ (∃ d : Nat, d ≤ 15 ∧ digI ((decodeL q).1 : Nat) = (d : Int) ∧ hexGo (m + 1) v q = hexGo m (v * 16 + d) (q.drop (decodeL q).2)) := by
  rcases Utf.step q hne hv with ⟨b, t, rfl, hb, hd, ht⟩ | ⟨ch, t, c, hc⟩
  · rw [hd]
    dsimp only
    rw [hexGo]
    by_cases d1 : 48 ≤ b.toNat ∧ b.toNat ≤ 57
    · right
      refine ⟨b.toNat - 48, by omega, ?_, ?_⟩
      · rw [digI, if_pos (by omega)]; omega
      · rw [hexV, if_pos d1]; rfl
    · by_cases d2 : 97 ≤ b.toNat ∧ b.toNat ≤ 102
      · right
        refine ⟨b.toNat - 87, by omega, ?_, ?_⟩
        · rw [digI, if_neg (by omega), if_pos (by omega)]; omega
        · rw [hexV, if_neg d1, if_pos d2]; rfl
      · by_cases d3 : 65 ≤ b.toNat ∧ b.toNat ≤ 70
        · right
          refine ⟨b.toNat - 55, by omega, ?_, ?_⟩
          · rw [digI, if_neg (by omega), if_neg (by omega), if_pos (by omega)]; omega
          · rw [hexV, if_neg d1, if_neg d2, if_pos d3]; rfl
        · left
          refine ⟨?_, ?_⟩
          · rw [digI, if_neg (by omega), if_neg (by omega), if_neg (by omega)]
          · rw [hexV, if_neg d1, if_neg d2, if_neg d3]
  · left
    rw [hc.dec]
    have h128 := hc.ge
    refine ⟨?_, ?_⟩
    · rw [digI, if_neg (by dsimp only; omega), if_neg (by dsimp only; omega), if_neg (by dsimp only; omega)]
    · have h2 := hc.two
      obtain ⟨b, ch', rfl⟩ : ∃ b ch', ch = b :: ch' := by cases ch with
        | nil => simp at h2
        | cons b ch' => exact ⟨b, ch', rfl⟩
      have hb := hc.high b (by simp)
      rw [hc.eq, List.cons_append, hexGo, hexV_high b hb]
/-- What a number tells. -/
def NumPost (w : World) (rb : Nat) (r : Option (List UInt8 × List UInt8)) (e : Ending) (w' : World) : Prop := match r with
  | none => ∃ (c : Int) (s : List UInt8), e = .returned (.int .i32 c) ∧ Step w w' rb s true
  | some (o, q) => ∃ v : Nat, e = .returned (.int .i32 (v : Int)) ∧ v ≤ 1114111 ∧ encodeRune (v : Int) = o ∧ Step w w' rb q false ∧ validD q = true
set_option maxRecDepth 100000 in
set_option maxHeartbeats 3200000 in
theorem number_calls (rb : Nat) (l : List UInt8) (n : Nat) (hn : n ≤ 8) (hv : validD l = true) (w : World) (he : Env w) (hrb : lowB ≤ rb) (h : At w rb l false) :
    Calls Tryz.prog 128 #[.pointer (some ⟨rb, 0, none⟩), .int .i64 n] w fun e w' => NumPost w rb (rune (hexGo n 0 l)) e w' := by
  have HS0 := Lib.hid (Step.refl h)
  have HE0 := Lib.hid he
  have HV0 := Lib.hid hv
  clear h he hv
  go_enter Tryz.func128, Tryz.ntmps128
  go_wp2
  go_loopw [5, 8] (fun vx vi wr => ∃ (k v : Nat) (q : List UInt8), k ≤ n ∧ vi = .int .i64 k ∧ vx = .int .i32 v ∧ v ≤ 17825791 ∧ Hid (Step w wr rb q false) ∧ Hid (Env wr) ∧ Hid (validD q = true) ∧ Hid (hexGo n 0 l = hexGo (n - k) v q)) (fun _ vi _ => n - (intOf vi).toNat)
  case atStart => exact ⟨0, 0, l, by omega, rfl, rfl, by omega, HS0, HE0, HV0, Lib.hid (by simp)⟩
  case round =>
    obtain ⟨k, v, q, hk, rfl, rfl, hvb, HS, HE, HV, HG⟩ := hrel
    have hv0 : (0 : Int) ≤ (v : Int) := by omega
    have hv1 : (v : Int) ≤ 17825791 := by omega
    by_cases hlt : k < n
    · have hd : decide (k < n) = true := decide_eq_true hlt
      have ik0 : (0 : Int) ≤ (k : Int) := by omega
      have ik1 : (k : Int) ≤ 7 := by omega
      have hnk : n - k = (n - (k + 1)) + 1 := by omega
      rw [hnk] at HG
      by_cases hne : q = []
      · subst hne
        have HN : Hid (rune (hexGo n 0 l) = none) := Lib.hid (by rw [HG.out]; rfl)
        clear hnk HG
        go_wp2_with fail
        refine (take_end_calls rb [] false (.inr rfl) _ HS.out.at').mono ?_
        rintro e w1 ⟨rfl, hs1⟩
        have HS1 := Lib.hid (HS.out.trans hs1)
        obtain ⟨c0, c1, f0, f1, _⟩ := HS1.out.at'
        clear hs1
        go_wp2_with fail
        refine (digit_calls (-1) (by omega) (by omega) _).mono ?_
        rintro e w2 ⟨rfl, rfl⟩
        rw [show digI (-1) = -1 from rfl]
        go_wp2
        go_ret
        rw [HN.out]
        exact ⟨_, _, rfl, HS1.out.set1 true⟩
      · have hst := dig_step q hne HV.out (n - (k + 1)) v
        obtain ⟨r1, r2, r3, r4⟩ := rune_len q hne HV.out
        have HT := Lib.hid (take_calls rb q hne HV.out)
        have R4 := Lib.hid r4
        have HDg := Lib.hid (fun w => digit_calls ((decodeL q).1 : Nat) (by omega) (by omega) w)
        clear hnk r1 r4 hne
        generalize (decodeL q).1 = c at *
        generalize q.drop (decodeL q).2 = q' at *
        go_wp2_with fail
        refine (HT.out _ HE.out HS.out.at').mono ?_
        rintro e w1 ⟨rfl, hs1⟩
        have HS1 := Lib.hid (HS.out.trans hs1)
        have HE1 := Lib.hid (HE.out.step hs1 hrb)
        obtain ⟨c0, c1, f0, f1, _⟩ := HS1.out.at'
        clear hs1 HT
        go_wp2_with fail
        refine (HDg.out _).mono ?_
        rintro e w2 ⟨rfl, rfl⟩
        rcases hst with ⟨g1, g2⟩ | ⟨d, g1, g2, g3⟩
        · have HN : Hid (rune (hexGo n 0 l) = none) := Lib.hid (by rw [HG.out, g2]; rfl)
          rw [g1]
          clear g1 g2 HG HDg
          go_wp2
          go_ret
          rw [HN.out]
          exact ⟨_, _, rfl, HS1.out.set1 true⟩
        · have HG1 := Lib.hid (HG.out.trans g3)
          rw [g2]
          clear g2 g3 HG HDg
          have hd1 : ((d : Int) == -1) = false := by rw [beq_eq_false_iff_ne]; omega
          have i1 : (0 : Int) ≤ (d : Int) := by omega
          have i2 : (d : Int) ≤ 15 := by omega
          by_cases hbig : v ≤ 1114111
          · have e1 : decide (1114111 < (v : Int)) = false := decide_eq_false (by omega)
            have i3 : (v : Int) ≤ 1114111 := by omega
            clear hv1
            go_wp2
            go_roundw
            case rel => exact ⟨k + 1, v * 16 + d, q', by omega, by go_num, by go_num, by omega, HS1, HE1, R4, HG1⟩
            case measure => simp [intOf]; omega
          · have e1 : decide (1114111 < (v : Int)) = true := decide_eq_true (by omega)
            have HN : Hid (rune (hexGo n 0 l) = none) := Lib.hid (by rw [HG1.out]; exact rune_big _ _ _ (by omega))
            go_wp2
            go_ret
            rw [HN.out]
            exact ⟨_, _, rfl, HS1.out.set1 true⟩
    · obtain rfl : k = n := by omega
      rw [Nat.sub_self, hexGo] at HG
      obtain ⟨c0, c1, f0, f1, _⟩ := HS.out.at'
      go_wp2_with fail
      refine (validRune_calls (v : Int) _).mono ?_
      rintro e w2 ⟨rfl, rfl⟩
      cases hvr : Lib.validRune (v : Int) with
      | true =>
        have HN : Hid (rune (hexGo k 0 l) = some (encodeRune (v : Int), q)) := Lib.hid (by rw [HG.out, rune, if_pos hvr])
        have hle : v ≤ 1114111 := by
          unfold Lib.validRune at hvr
          rw [decide_eq_true_iff] at hvr
          omega
        clear hvr HG
        go_wp2
        go_ret
        rw [HN.out]
        exact ⟨v, rfl, hle, rfl, HS.out, HV.out⟩
      | false =>
        have HN : Hid (rune (hexGo k 0 l) = none) := Lib.hid (by rw [HG.out, rune, if_neg (by rw [hvr]; decide)])
        clear hvr HG
        go_wp2
        go_ret
        rw [HN.out]
        exact ⟨_, _, rfl, HS.out.set1 true⟩
end Go.Proofs.YtmcoloapiiakbaaGreatDoor.Prg
