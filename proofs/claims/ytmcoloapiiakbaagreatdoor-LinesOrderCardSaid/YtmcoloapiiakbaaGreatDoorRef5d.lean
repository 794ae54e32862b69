/-
  What the reference of terms answers: which may be.
-/
import Derived.Test.YtmcoloapiiakbaaGreatDoorRef5c
import Derived.Test.YtmcoloapiiakbaaGreatDoorEnv
set_option linter.unusedVariables false
set_option linter.unusedSimpArgs false
namespace Go.Proofs.YtmcoloapiiakbaaGreatDoor.Ref5
open Go.RowKit Go.Lib Go.Proofs.YtmcoloapiiakbaaGreatDoor.B Go.Proofs.YtmcoloapiiakbaaGreatDoor.Rd Go.Proofs.YtmcoloapiiakbaaGreatDoor.Utf Go.Proofs.YtmcoloapiiakbaaGreatDoor.TermPure Go.Proofs.YtmcoloapiiakbaaGreatDoor.LinesPure Go.Proofs.YtmcoloapiiakbaaGreatDoor.Tx Go.Proofs.YtmcoloapiiakbaaGreatDoor.Env

theorem isIRI_no (s : List UInt8) (h : validD s = false ∨ s = [] ∨ 60 < s.length) : isIRI s = false := by
  unfold isIRI
  rcases h with h | h | h
  · rw [h]; simp
  · subst h; rfl
  · rw [decide_eq_false (by omega : ¬ s.length ≤ 60)]; simp
theorem isIRI_runes (s : List UInt8) (h : validD s = true) (h1 : s ≠ []) (h2 : s.length ≤ 60) : isIRI s = (runes s).all iriRune := by
  unfold isIRI
  rw [h, decide_eq_true h1, decide_eq_true h2]
  simp
theorem decodeL_rune_le (l : List UInt8) : (decodeL l).1 ≤ 1114111 := by
  have := Lib.rune_le (mkS l) 0
  rw [← decodeL_drop (mkS l) 0] at this
  exact this
theorem runesGo_le : ∀ (f : Nat) (l : List UInt8), ∀ c ∈ runesGo f l, c ≤ 1114111
  | 0, l, c, h => by rw [runesGo] at h; cases h
  | f + 1, l, c, h => by
    rw [runesGo] at h
    split at h
    · cases h
    · rcases List.mem_cons.1 h with rfl | h
      · exact decodeL_rune_le l
      · exact runesGo_le f _ c h
set_option maxRecDepth 100000 in
set_option maxHeartbeats 1600000 in
theorem isIRI_calls (s : List UInt8) (hs : s.length ≤ 70368744177664) (w : World) (he : Env w) :
    Calls Tryz.prog 67 #[.string (mkS s)] w fun e w' => e = .returned (.bool (isIRI s)) ∧ Below w.heap.size w w' := by
  have z := mkS_size s
  have HE := Lib.hid he
  have hn := isIRI_no s
  have hr := isIRI_runes s
  have HN := Lib.hid hn
  have HR := Lib.hid hr
  clear hn hr he
  go_enter Tryz.func67, Tryz.ntmps67
  go_wp2_with fail
  refine (valid_calls s (by omega) _ HE.out).mono ?_
  rintro e w1 ⟨rfl, hb1⟩
  have HB1 := Lib.hid hb1
  clear hb1
  cases hv : validD s with
  | false =>
    have HF := Lib.hid (HN.out (.inl hv))
    clear hv
    go_wp2
    go_ret
    exact ⟨ret_bool HF.out.symm, HB1.out⟩
  | true =>
    by_cases h1 : s = []
    · have HF := Lib.hid (HN.out (.inr (.inl h1)))
      have hl : decide ((s.length : Int) < 1) = true := decide_eq_true (by rw [h1]; decide)
      clear hv h1
      go_wp2
      go_ret
      exact ⟨ret_bool HF.out.symm, HB1.out⟩
    · have hl0 : 0 < s.length := List.length_pos_iff.2 h1
      have hl : decide ((s.length : Int) < 1) = false := decide_eq_false (by omega)
      by_cases h2 : s.length ≤ 60
      · have hl2 : decide ((60 : Int) < (s.length : Int)) = false := decide_eq_false (by omega)
        have HF := Lib.hid (HR.out hv h1 h2)
        obtain ⟨cap, C, hc1, hc2, hcv, hC⟩ := runes_conv s hs w1
        have hle := runesGo_le s.length s
        have hRl := runes_len s
        have hle' : ∀ c ∈ runes s, c ≤ 1114111 := hle
        generalize runes s = R at *
        have HC := Lib.hid hC
        have HLE := Lib.hid hle'
        clear hv h1 hle hle' hC HN HR
        have HB2 : Hid (Below w.heap.size w ((w1.alloc (.cells C 21)).drew)) := Lib.hid (bel_drew (bel_alloc HB1.out _))
        go_wp2
        go_loopw [4] (fun vi wr => ∃ k : Nat, k ≤ R.length ∧ vi = .int .i64 k ∧ wr = (w1.alloc (.cells C 21)).drew ∧ Hid ((R.take k).all iriRune = true)) (fun vi _ => R.length - (intOf vi).toNat)
        case atStart => exact ⟨0, by omega, rfl, by first | rfl | trivial, Lib.hid rfl⟩
        case round =>
          obtain ⟨k, hk, rfl, rfl, HA⟩ := hrel
          have hRb : R.length ≤ 60 := by omega
          by_cases hlt : k < R.length
          · have hd : decide (k < R.length) = true := decide_eq_true hlt
            have ik : (k : Int) < (R.length : Int) := by omega
            have ik0 : (0 : Int) ≤ (k : Int) := by omega
            obtain ⟨n, hn0⟩ : ∃ n, R[k] = n := ⟨_, rfl⟩
            have hcell : ((w1.alloc (.cells C 21)).drew).cell? ⟨w1.heap.size, k, none⟩ = some (.int .i32 (n : Int)) := by
              unfold World.cell?
              dsimp only
              rw [show ((w1.alloc (.cells C 21)).drew).heap = (w1.alloc (.cells C 21)).heap from rfl, Kd.heap_new]
              dsimp only
              rw [← hn0]
              exact HC.out k hlt
            have hgl : Hid (R.take (k + 1) = R.take k ++ [n]) := Lib.hid (by rw [List.take_succ_eq_append_getElem hlt, hn0])
            have hnl : n ≤ 1114111 := HLE.out n (by rw [← hn0]; exact List.getElem_mem hlt)
            have HNo : Hid (iriRune n = false → R.all iriRune = false) := Lib.hid (fun h => by
              rw [List.all_eq_false]
              exact ⟨n, by rw [← hn0]; exact List.getElem_mem hlt, by simp [h]⟩)
            clear hn0
            go_wp2_with fail
            refine (Ref4.iriRune_calls n hnl _).mono ?_
            rintro e w3 ⟨rfl, rfl⟩
            cases hb : iriRune n with
            | true =>
              have HA2 := Lib.hid (show (R.take (k + 1)).all iriRune = true by rw [hgl.out, List.all_append, HA.out]; simp [hb])
              go_wp2
              go_roundw
              case rel => exact ⟨k + 1, by omega, by go_num, by first | rfl | trivial, HA2⟩
              case measure => simp [intOf]; omega
            | false =>
              have HF2 := Lib.hid (HF.out.trans (HNo.out hb))
              go_wp2
              go_ret
              exact ⟨ret_bool HF2.out.symm, HB2.out⟩
          · obtain rfl : k = R.length := by omega
            rw [List.take_length] at HA
            have HF2 := Lib.hid (HF.out.trans HA.out)
            go_wp2
            go_ret
            exact ⟨ret_bool HF2.out.symm, HB2.out⟩
      · have hl2 : decide ((60 : Int) < (s.length : Int)) = true := decide_eq_true (by omega)
        have HF := Lib.hid (HN.out (.inr (.inr (by omega))))
        clear hv h1
        go_wp2
        go_ret
        exact ⟨ret_bool HF.out.symm, HB1.out⟩

/-- A term by value. -/
def termV (t : Term) : Value := .agg #[.int .i64 t.kind, .string (mkS t.text), .string (mkS t.extra)]
/-- What a term's parts are at most. -/
def Fits (t : Term) : Prop := (-9223372036854775808 ≤ t.kind ∧ t.kind ≤ 9223372036854775807) ∧ t.text.length ≤ 70368744177664 ∧ t.extra.length ≤ 70368744177664
set_option maxRecDepth 100000 in
set_option maxHeartbeats 3200000 in
theorem is4_calls (t : Term) (ht : Fits t) (w : World) (he : Env w) :
    Calls Tryz.prog 38 #[termV t] w fun e w' => e = .returned (.bool (is t)) ∧ Below w.heap.size w w' := by
  obtain ⟨kind, x, ex⟩ := t
  obtain ⟨_, hx, hex⟩ := ht
  dsimp only at *
  have zx := mkS_size x
  have ze := mkS_toList ex
  have HE := Lib.hid he
  have HI : Hid (is ⟨kind, x, ex⟩ = if kind = 1 then isIRI x && decide (ex = [])
    else if kind = 2 then isLabel x && decide (ex = [])
    else if kind = 3 then isText x && decide (ex = [])
    else if kind = 4 then isText x && isLang ex
    else if kind = 5 then isText x && isIRI ex
    else false) := Lib.hid rfl
  obtain ⟨xe, hxe⟩ : ∃ xe : Bool, decide (ex = []) = xe := ⟨_, rfl⟩
  have hee : ex.isEmpty = xe := by rw [← hxe]; cases ex <;> rfl
  rw [hxe] at HI
  clear he hxe
  unfold termV
  dsimp only
  go_enter Tryz.func38, Tryz.ntmps38
  go_upto_region 1 with fail
  go_cut [3] (fun v3 wx => v3 = .bool (isText x) ∧ Hid (Below (w.heap.size + 1) (w.alloc (.cells #[.int .i64 kind, .string (mkS x), .string (mkS ex)] 23)) wx))
  case first =>
    clear hee HI
    go_wp2_with fail
    refine (valid_calls x (by omega) _ (HE.out.below ((Below.refl _ _).alloc (Nat.le_refl _) _))).mono ?_
    rintro e w1 ⟨rfl, hb1⟩
    obtain ⟨hc1, hf1⟩ := bcell hb1
    have HB1 := Lib.hid hb1
    have HT : Hid (isText x = (decide (x.length ≤ 30) && validD x)) := Lib.hid rfl
    clear hb1
    cases hv : validD x with
    | false =>
      have HT2 := Lib.hid (show isText x = false by rw [HT.out, hv]; simp)
      go_wp2
      go_meet
      exact ⟨by rw [HT2.out], Lib.hid (by simpa using HB1.out)⟩
    | true =>
      have HT2 := Lib.hid (show isText x = decide ((x.length : Int) ≤ 30) by rw [HT.out, hv, Bool.and_true, Bool.eq_iff_iff, decide_eq_true_iff, decide_eq_true_iff]; omega)
      go_wp2
      go_meet
      exact ⟨by rw [HT2.out], Lib.hid (by simpa using HB1.out)⟩
  case rest =>
    obtain ⟨rfl, HB⟩ := hcut
    have hb1 := HB.out
    have hb1' : Below (w.alloc (.cells #[.int .i64 kind, .string (mkS x), .string (mkS ex)] 23)).heap.size (w.alloc (.cells #[.int .i64 kind, .string (mkS x), .string (mkS ex)] 23)) wc := by simpa using hb1
    obtain ⟨hc1, hf1⟩ := bcell hb1'
    have HW := Lib.hid (show Below w.heap.size w wc from ((Below.refl _ _).alloc (Nat.le_refl _) _).trans (hb1.mono (by omega)))
    have HE1 := Lib.hid (HE.out.below HW.out)
    have WC : w.heap.size < wc.heap.size := by have := hb1.size; simp at this; omega
    clear hb1 hb1' HB HE
    generalize isText x = tx at *
    by_cases k1 : kind = 1
    · subst k1
      have HF := Lib.hid (HI.out.trans (if_pos rfl))
      clear HI
      go_wp2_with fail
      refine (isIRI_calls x (by omega) _ HE1.out).mono ?_
      rintro e w2 ⟨rfl, hb2⟩
      obtain ⟨hc2, hf2⟩ := bcell hb2
      have hz2 := hb2.size
      have HW2 := Lib.hid (bel_step HW.out hb2)
      have hz1 : w.heap.size < wc.heap.size := WC
      clear hb2
      generalize isIRI x = r at *
      cases r
      all_goals go_wp2
      all_goals go_ret
      all_goals exact ⟨ret_bool (by rw [HF.out]; simp [*]), HW2.out⟩
    · have e1 : (kind == 1) = false := by rw [beq_eq_false_iff_ne]; exact k1
      by_cases k2 : kind = 2
      · subst k2
        have HF := Lib.hid (HI.out.trans ((if_neg (by decide)).trans (if_pos rfl)))
        clear HI
        go_wp2_with fail
        refine (Ref4.label_calls x (by omega) _).mono ?_
        rintro e w2 ⟨rfl, rfl⟩
        have HW2 := HW
        generalize isLabel x = r at *
        cases r
        all_goals go_wp2
        all_goals go_ret
        all_goals exact ⟨ret_bool (by rw [HF.out]; simp [*]), HW2.out⟩
      · have e2 : (kind == 2) = false := by rw [beq_eq_false_iff_ne]; exact k2
        by_cases k3 : kind = 3
        · subst k3
          have HF := Lib.hid (HI.out.trans ((if_neg (by decide)).trans ((if_neg (by decide)).trans (if_pos rfl))))
          clear HI
          cases tx with
          | false =>
            go_wp2
            all_goals go_ret
            all_goals exact ⟨ret_bool (by rw [HF.out]; simp [*]), HW.out⟩
          | true =>
            go_wp2
            all_goals go_ret
            all_goals exact ⟨ret_bool (by rw [HF.out]; simp [*]), HW.out⟩
        · have e3 : (kind == 3) = false := by rw [beq_eq_false_iff_ne]; exact k3
          by_cases k4 : kind = 4
          · subst k4
            have HF := Lib.hid (HI.out.trans ((if_neg (by decide)).trans ((if_neg (by decide)).trans ((if_neg (by decide)).trans (if_pos rfl)))))
            clear HI
            cases tx with
            | false =>
              go_wp2
              all_goals go_ret
              all_goals exact ⟨ret_bool (by rw [HF.out]; simp [*]), HW.out⟩
            | true =>
              go_wp2_with fail
              refine (Ref4.lang_calls ex (by omega) _).mono ?_
              rintro e w2 ⟨rfl, hb2⟩
              obtain ⟨hc2, hf2⟩ := bcell hb2
              have hz2 := hb2.size
              have HW2 := Lib.hid (bel_step HW.out hb2)
              have hz1 : w.heap.size < wc.heap.size := WC
              clear hb2
              generalize isLang ex = r at *
              cases r
              all_goals go_wp2
              all_goals go_ret
              all_goals exact ⟨ret_bool (by rw [HF.out]; simp [*]), HW2.out⟩
          · have e4 : (kind == 4) = false := by rw [beq_eq_false_iff_ne]; exact k4
            by_cases k5 : kind = 5
            · subst k5
              have HF := Lib.hid (HI.out.trans ((if_neg (by decide)).trans ((if_neg (by decide)).trans ((if_neg (by decide)).trans ((if_neg (by decide)).trans (if_pos rfl))))))
              clear HI
              cases tx with
              | false =>
                go_wp2
                all_goals go_ret
                all_goals exact ⟨ret_bool (by rw [HF.out]; simp [*]), HW.out⟩
              | true =>
                go_wp2_with fail
                refine (isIRI_calls ex (by omega) _ HE1.out).mono ?_
                rintro e w2 ⟨rfl, hb2⟩
                obtain ⟨hc2, hf2⟩ := bcell hb2
                have hz2 := hb2.size
                have HW2 := Lib.hid (bel_step HW.out hb2)
                have hz1 : w.heap.size < wc.heap.size := WC
                clear hb2
                generalize isIRI ex = r at *
                cases r
                all_goals go_wp2
                all_goals go_ret
                all_goals exact ⟨ret_bool (by rw [HF.out]; simp [*]), HW2.out⟩
            · have e5 : (kind == 5) = false := by rw [beq_eq_false_iff_ne]; exact k5
              have HF := Lib.hid (HI.out.trans ((if_neg k1).trans ((if_neg k2).trans ((if_neg k3).trans ((if_neg k4).trans (if_neg k5))))))
              clear HI
              go_wp2
              go_ret
              exact ⟨ret_bool HF.out.symm, HW.out⟩
end Go.Proofs.YtmcoloapiiakbaaGreatDoor.Ref5
