/-
  What the reference of lines answers: a line.
-/
import Derived.Test.YtmcoloapiiakbaaGreatDoorRef5d
set_option linter.unusedVariables false
set_option linter.unusedSimpArgs false
namespace Go.Proofs.YtmcoloapiiakbaaGreatDoor.Ref5
open Go.RowKit Go.Lib Go.Proofs.YtmcoloapiiakbaaGreatDoor.B Go.Proofs.YtmcoloapiiakbaaGreatDoor.Rd Go.Proofs.YtmcoloapiiakbaaGreatDoor.Utf Go.Proofs.YtmcoloapiiakbaaGreatDoor.TermPure Go.Proofs.YtmcoloapiiakbaaGreatDoor.LinesPure Go.Proofs.YtmcoloapiiakbaaGreatDoor.Tx Go.Proofs.YtmcoloapiiakbaaGreatDoor.Env

/-- A term's cells. -/
def termC (t : Term) : List Value := [.int .i64 t.kind, .string (mkS t.text), .string (mkS t.extra)]
/-- A triple by value. -/
def tripleV (t : Triple) : Value := .agg #[.int .i64 t.s.kind, .string (mkS t.s.text), .string (mkS t.s.extra), .int .i64 t.p.kind, .string (mkS t.p.text), .string (mkS t.p.extra), .int .i64 t.o.kind, .string (mkS t.o.text), .string (mkS t.o.extra)]
def FitsT (t : Triple) : Prop := Fits t.s ∧ Fits t.p ∧ Fits t.o
theorem is_kind (t : Term) (h : is t = true) : 1 ≤ t.kind ∧ t.kind ≤ 5 := by
  unfold is at h
  by_cases h1 : t.kind = 1
  · omega
  · by_cases h2 : t.kind = 2
    · omega
    · by_cases h3 : t.kind = 3
      · omega
      · by_cases h4 : t.kind = 4
        · omega
        · by_cases h5 : t.kind = 5
          · omega
          · rw [if_neg h1, if_neg h2, if_neg h3, if_neg h4, if_neg h5] at h
            cases h
theorem isTriple_eq (t : Triple) : isTriple t = (is t.s && (is t.p && (is t.o && (decide (t.s.kind ≤ 2) && (t.p.kind == 1))))) := by
  unfold isTriple
  cases h : is t.s with
  | false => rfl
  | true =>
    have := is_kind _ h
    congr 3
    congr 1
    · rw [Bool.eq_iff_iff]
      simp
      omega
set_option maxRecDepth 100000 in
set_option maxHeartbeats 3200000 in
theorem is5_calls (t : Triple) (ht : FitsT t) (w : World) (he : Env w) :
    Calls Tryz.prog 18 #[tripleV t] w fun e w' => e = .returned (.bool (isTriple t)) ∧ Below w.heap.size w w' := by
  have HI := Lib.hid (isTriple_eq t)
  obtain ⟨⟨k1, x1, y1⟩, ⟨k2, x2, y2⟩, ⟨k3, x3, y3⟩⟩ := t
  obtain ⟨h1, h2, h3⟩ := ht
  dsimp only at *
  have HE := Lib.hid (he.below ((Below.refl w.heap.size w).alloc (Nat.le_refl _) (.cells #[.int .i64 k1, .string (mkS x1), .string (mkS y1), .int .i64 k2, .string (mkS x2), .string (mkS y2), .int .i64 k3, .string (mkS x3), .string (mkS y3)] 25)))
  have HB := Lib.hid ((Below.refl w.heap.size w).alloc (Nat.le_refl _) (.cells #[.int .i64 k1, .string (mkS x1), .string (mkS y1), .int .i64 k2, .string (mkS x2), .string (mkS y2), .int .i64 k3, .string (mkS x3), .string (mkS y3)] 25))
  have H1 := Lib.hid (fun W hW => is4_calls ⟨k1, x1, y1⟩ h1 W hW)
  have H2 := Lib.hid (fun W hW => is4_calls ⟨k2, x2, y2⟩ h2 W hW)
  have H3 := Lib.hid (fun W hW => is4_calls ⟨k3, x3, y3⟩ h3 W hW)
  clear he h1 h2 h3
  unfold termV at H1 H2 H3
  dsimp only at H1 H2 H3
  generalize is ⟨k1, x1, y1⟩ = r1 at *
  generalize is ⟨k2, x2, y2⟩ = r2 at *
  generalize is ⟨k3, x3, y3⟩ = r3 at *
  unfold tripleV
  dsimp only
  go_enter Tryz.func18, Tryz.ntmps18
  go_wp2_with fail
  refine (H1.out _ HE.out).mono ?_
  rintro e w1 ⟨rfl, hb1⟩
  obtain ⟨hc1, hf1⟩ := bcell hb1
  have hz1 : w.heap.size < w1.heap.size := by have := hb1.size; simp at this; omega
  have HB1 := Lib.hid (bel_step HB.out hb1)
  have HE1 := Lib.hid (HE.out.below hb1)
  clear hb1
  cases r1 with
  | false =>
    have HF := Lib.hid HI.out
    go_wp2
    go_ret
    exact ⟨ret_bool (by rw [HI.out]; rfl), HB1.out⟩
  | true =>
    go_wp2_with fail
    refine (H2.out _ HE1.out).mono ?_
    rintro e w2 ⟨rfl, hb2⟩
    obtain ⟨hc2, hf2⟩ := bcell hb2
    have hz2 : w.heap.size < w2.heap.size := by have := hb2.size; omega
    have HB2 := Lib.hid (bel_step HB1.out hb2)
    have HE2 := Lib.hid (HE1.out.below hb2)
    clear hb2
    cases r2 with
    | false =>
      go_wp2
      go_ret
      exact ⟨ret_bool (by rw [HI.out]; rfl), HB2.out⟩
    | true =>
      go_wp2_with fail
      refine (H3.out _ HE2.out).mono ?_
      rintro e w3 ⟨rfl, hb3⟩
      obtain ⟨hc3, hf3⟩ := bcell hb3
      have hz3 : w.heap.size < w3.heap.size := by have := hb3.size; omega
      have HB3 := Lib.hid (bel_step HB2.out hb3)
      clear hb3
      cases r3 with
      | false =>
        go_wp2
        go_ret
        exact ⟨ret_bool (by rw [HI.out]; rfl), HB3.out⟩
      | true =>
        obtain ⟨q1, hq1⟩ : ∃ q : Bool, decide (k1 ≤ 2) = q := ⟨_, rfl⟩
        obtain ⟨q2, hq2⟩ : ∃ q : Bool, (k2 == 1) = q := ⟨_, rfl⟩
        have HF := Lib.hid (HI.out.trans (show _ = (q1 && q2) by rw [hq1, hq2]; rfl))
        cases q1
        all_goals cases q2
        all_goals go_wp2
        all_goals go_ret
        all_goals exact ⟨ret_bool (by rw [HF.out]; rfl), HB3.out⟩

theorem lower_yes (b : UInt8) (h1 : 65 ≤ b.toNat) (h2 : b.toNat ≤ 90) : ((lowerB b).toNat : Int) = (b.toNat : Int) + 32 := by
  have hu : isUpperB b = true := by
    unfold isUpperB
    simp [UInt8.le_iff_toNat_le]
    omega
  rw [lowerB, if_pos hu, UInt8.toNat_add]
  have : (32 : UInt8).toNat = 32 := rfl
  omega
theorem lower_no (b : UInt8) (h : ¬ (65 ≤ b.toNat ∧ b.toNat ≤ 90)) : lowerB b = b := by
  have hu : isUpperB b = false := by
    unfold isUpperB
    simp [UInt8.le_iff_toNat_le]
    omega
  rw [lowerB, hu]
  rfl
set_option maxRecDepth 100000 in
set_option maxHeartbeats 1600000 in
theorem small_calls (s : List UInt8) (hs : s.length ≤ 70368744177664) (w : World) :
    Calls Tryz.prog 88 #[.string (mkS s)] w fun e w' => e = .returned (.string (mkS (toLowerA s))) ∧ Below w.heap.size w w' := by
  obtain ⟨cap, o, hc1, hc2, hcv, ho⟩ := bytes_conv s hs w
  have ho' := ho w rfl
  have HC0 := Lib.hid (fun k h => (ho' k h).1)
  have HF0 := Lib.hid (fun k h => (ho' k h).2)
  clear ho ho'
  go_enter Tryz.func88, Tryz.ntmps88
  go_wp2
  go_loopw [4] (fun vi wr => ∃ k : Nat, k ≤ s.length ∧ vi = .int .i64 k ∧ Hid (Below w.heap.size w wr) ∧ Hid (∀ i (h : i < s.length), wr.cell? ⟨w.heap.size, i, none⟩ = some (.int .u8 ((if i < k then lowerB s[i] else s[i]).toNat : Int))) ∧ Hid (∀ i (h : i < s.length), wr.frozen? ⟨w.heap.size, i, none⟩ = false)) (fun vi _ => s.length - (intOf vi).toNat)
  case atStart => exact ⟨0, by omega, rfl, Lib.hid (bel_drew (bel_alloc (Below.refl _ _) _)), Lib.hid (fun i h => (HC0.out i h).trans (by simp)), Lib.hid (fun i h => HF0.out i h)⟩
  case round =>
    obtain ⟨k, hk, rfl, HB, HC, HF⟩ := hrel
    by_cases hlt : k < s.length
    · have hd : decide (k < s.length) = true := decide_eq_true hlt
      have ik : (k : Int) < (s.length : Int) := by omega
      have ik0 : (0 : Int) ≤ (k : Int) := by omega
      have hcell := HC.out k hlt
      rw [if_neg (by omega)] at hcell
      have hfr := HF.out k hlt
      obtain ⟨b, hb0⟩ : ∃ b, s[k] = b := ⟨_, rfl⟩
      rw [hb0] at hcell
      have HB0 := Lib.hid hb0
      have hbl := b.toNat_lt
      clear hb0
      by_cases h1 : 65 ≤ b.toNat ∧ b.toNat ≤ 90
      · obtain ⟨h1, h2⟩ := h1
        have e1 : decide (65 ≤ (b.toNat : Int)) = true := decide_eq_true (by omega)
        have e2 : decide ((b.toNat : Int) ≤ 90) = true := decide_eq_true (by omega)
        have i2 : (b.toNat : Int) ≤ 90 := by omega
        have HL := Lib.hid (lower_yes b h1 h2)
        go_wp2
        go_roundw
        case rel =>
          refine ⟨k + 1, by omega, by go_num, Lib.hid (bel_set HB.out (Nat.le_refl _) _), Lib.hid ?_, Lib.hid ?_⟩
          · intro i hi
            by_cases e : i = k
            · subst e
              rw [World.cell?_setCell_same _ _ _ hcell, if_pos (by omega), HB0.out, HL.out]
            · rw [World.cell?_setCell_other _ _ _ _ (by simp; try omega), HC.out i hi]
              by_cases h : i < k
              · rw [if_pos h, if_pos (by omega)]
              · rw [if_neg h, if_neg (by omega)]
          · intro i hi
            rw [World.frozen?_setCell]
            exact HF.out i hi
        case measure => simp [intOf]; omega
      · have e1 : (decide (65 ≤ (b.toNat : Int)) && decide ((b.toNat : Int) ≤ 90)) = false := by simp; omega
        have HL := Lib.hid (lower_no b h1)
        have h3 : (decide (65 ≤ (b.toNat : Int)) = false) ∨ (decide (65 ≤ (b.toNat : Int)) = true ∧ decide ((b.toNat : Int) ≤ 90) = false) := by simp; omega
        clear h1 e1
        rcases h3 with h3 | ⟨h3, h4⟩
        all_goals
          go_wp2
          go_roundw
          case rel =>
            refine ⟨k + 1, by omega, by go_num, HB, Lib.hid ?_, HF⟩
            intro i hi
            rw [HC.out i hi]
            by_cases e : i = k
            · subst e
              rw [if_neg (by omega), if_pos (by omega), HB0.out, HL.out]
            · by_cases h : i < k
              · rw [if_pos h, if_pos (by omega)]
              · rw [if_neg h, if_neg (by omega)]
          case measure => simp [intOf]; omega
    · obtain rfl : k = s.length := by omega
      have hback := run_convert_bytes_back (P := Tryz.prog) wr 63 9 5 ⟨w.heap.size, 0, none⟩ cap (toLowerA s) Tryz.underlying63 Tryz.underlying5 Tryz.underlying9 (fun j hj => by
        have hj' : j < s.length := by simpa [toLowerA] using hj
        rw [add_plain, HC.out j hj', if_pos hj']
        simp [toLowerA])
      rw [show (toLowerA s).length = s.length by simp [toLowerA]] at hback
      go_wp2
      go_ret
      exact ⟨rfl, HB.out⟩
end Go.Proofs.YtmcoloapiiakbaaGreatDoor.Ref5
