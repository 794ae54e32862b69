/-
  What the program's reader of lines answers: terms.
-/
import Derived.Test.YtmcoloapiiakbaaGreatDoorPrg9
import Derived.Deep.CutBlock
set_option linter.unusedVariables false
set_option linter.unusedSimpArgs false
namespace Go.Proofs.YtmcoloapiiakbaaGreatDoor.Prg
open Go.RowKit Go.Lib Go.Proofs.YtmcoloapiiakbaaGreatDoor.B Go.Proofs.YtmcoloapiiakbaaGreatDoor.Rd Go.Proofs.YtmcoloapiiakbaaGreatDoor.Utf Go.Proofs.YtmcoloapiiakbaaGreatDoor.TermPure Go.Proofs.YtmcoloapiiakbaaGreatDoor.LinesPure Go.Proofs.YtmcoloapiiakbaaGreatDoor.Tx Go.Proofs.YtmcoloapiiakbaaGreatDoor.Env Go.Proofs.YtmcoloapiiakbaaGreatDoor.Bld Go.Proofs.YtmcoloapiiakbaaGreatDoor.Tc
open Go.Proofs.YtmcoloapiiakbaaGreatDoor.Ref5 (termV Fits tripleV FitsT isTriple_eq two_zero up_len run_fst_len run_snd_len low_len zeroTr T9 oneV FitsO Next)

theorem next_is (l : List UInt8) (hv : validD l = true) (hne : l ≠ []) : (((decodeL l).1 : Int) == 60) = ([60] : List UInt8).isPrefixOf l := by
  rcases Utf.step l hne hv with ⟨b, t, rfl, hb, hd, ht⟩ | ⟨ch, t, c, hc⟩
  · rw [hd]
    show ((b.toNat : Int) == 60) = ((60 : UInt8) == b && true)
    rw [Bool.and_true, Bool.eq_iff_iff, beq_iff_eq, beq_iff_eq]
    constructor
    · intro h; exact UInt8.toNat_inj.1 (by show 60 = b.toNat; omega)
    · rintro rfl; rfl
  · rw [hc.dec]
    have h128 := hc.ge
    have h2 := hc.two
    obtain ⟨b, ch', rfl⟩ : ∃ b ch', ch = b :: ch' := by cases ch with
      | nil => simp at h2
      | cons b ch' => exact ⟨b, ch', rfl⟩
    have hb := hc.high b (by simp)
    have e1 : (((c : Nat) : Int) == 60) = false := by rw [beq_eq_false_iff_ne]; omega
    have e2 : ((60 : UInt8) == b) = false := by rw [beq_eq_false_iff_ne]; rintro rfl; exact absurd hb (by decide)
    rw [hc.eq]
    show (((c : Nat) : Int) == 60) = ((60 : UInt8) == b && _)
    rw [e1, e2, Bool.false_and]
theorem literal_extra (l : List UInt8) : ∀ t q, literal false l = some (t, q) → t.extra.length ≤ l.length := by
  intro t q h
  rw [literal] at h
  cases hu : up 34 true true l with
  | none => rw [hu] at h; cases h
  | some p =>
    obtain ⟨x, r⟩ := p
    have h1 := up_len 34 true true l.length l (Nat.le_refl _) x r hu
    rw [hu] at h
    dsimp only at h
    split at h
    · cases h
      dsimp only
      rw [low_len]
      have := run_fst_len true (r.drop 1)
      rw [List.length_drop] at this
      omega
    · split at h
      · split at h
        · cases hv : up 62 false false (r.drop 3) with
          | none => rw [hv] at h; cases h
          | some p2 =>
            obtain ⟨e, y⟩ := p2
            have h2 := up_len 62 false false _ (r.drop 3) (Nat.le_refl _) e y hv
            rw [hv] at h
            cases h
            rw [List.length_drop] at h2
            dsimp only
            omega
        · cases h
      · cases h
        simp
/-- What has been read of a term ahead of the check. -/
def PRaw (w : World) (rb g2 g3 : Nat) (l : List UInt8) (wx : World) : Prop :=
  ∃ t : Term, TC wx g3 0 t ∧ TC wx g2 0 zeroT ∧ Env wx ∧
    ((rawTerm false l = none ∧ ∃ s, Step w wx rb s true) ∨ (∃ q, Step w wx rb q false ∧ validD q = true ∧ Fits t ∧ t.extra.length ≤ 1000000 ∧ (rawTerm false l = some (t, q) ∨ (rawTerm false l = none ∧ is t = false))))
set_option maxRecDepth 100000 in
set_option maxHeartbeats 6400000 in
theorem term_calls (rb : Nat) (l : List UInt8) (hll : l.length ≤ 1000000) (hv : validD l = true) (w : World) (he : Env w) (hrb : lowB ≤ rb) (h : At w rb l false) :
    Calls Tryz.prog 29 #[.pointer (some ⟨rb, 0, none⟩)] w fun e w' => PTermPost w rb (term false l) e w' := by
  have hlt := h.lt
  have HS0 := Lib.hid (((Step.refl h).alloc (.cells #[.int .i64 0, .string (mkS []), .string (mkS [])] 23)).alloc (.cells #[.int .i64 0, .string (mkS []), .string (mkS [])] 23))
  have HT := Lib.hid (two_zero (w := w))
  have T2 := Lib.hid (HT.out w rfl).1
  have T3 := Lib.hid (HT.out w rfl).2
  have HE0 := Lib.hid (he.below (bel_alloc (bel_alloc (Below.refl _ _) (.cells #[.int .i64 0, .string (mkS []), .string (mkS [])] 23)) (.cells #[.int .i64 0, .string (mkS []), .string (mkS [])] 23)))
  have HV := Lib.hid hv
  have hlow := he.low
  have hn2 : ¬ w.heap.size = rb := by omega
  have hn3 : ¬ w.heap.size + 1 = rb := by omega
  have hz3 : w.heap.size < w.heap.size + 1 := by omega
  have HR : Hid (rawTerm false l = if ([60] : List UInt8).isPrefixOf l = true then (up 62 false false (l.drop 1)).map fun x => (⟨1, x.1, []⟩, x.2)
    else if ([95, 58] : List UInt8).isPrefixOf l = true then some (⟨2, (run false (l.drop 2)).1, []⟩, (run false (l.drop 2)).2)
    else if ([34] : List UInt8).isPrefixOf l = true then literal false (l.drop 1)
    else none) := Lib.hid rfl
  clear h he hv
  go_enter Tryz.func29, Tryz.ntmps29
  go_upto_block 0 with fail
  go_cut [] (fun wx => Hid (PRaw w rb w.heap.size (w.heap.size + 1) l wx))
  case first =>
    go_upto_region 2 with fail
    go_cut [4] (fun v4 wx => v4 = .bool (([60] : List UInt8).isPrefixOf l) ∧ Hid (Step w wx rb l false) ∧ Hid (TC wx w.heap.size 0 zeroT) ∧ Hid (TC wx (w.heap.size + 1) 0 zeroT) ∧ Hid (Env wx))
    case first =>
      by_cases hne : l = []
      · subst hne
        go_wp2_with fail
        refine (next_end_calls rb [] false (.inr rfl) _ HS0.out.at').mono ?_
        rintro e w1 ⟨rfl, rfl⟩
        go_wp2
        go_meet
        exact ⟨rfl, HS0, T2, T3, HE0⟩
      · have hni := next_is l HV.out hne
        have HNx := Lib.hid (next_calls rb l hne _ HE0.out HS0.out.at')
        generalize (decodeL l).1 = c at *
        go_wp2_with fail
        refine HNx.out.mono ?_
        rintro e w1 ⟨rfl, hb1⟩
        have HS1 := Lib.hid (HS0.out.below hb1)
        have U2 := Lib.hid (T2.out.below hb1)
        have U3 := Lib.hid (T3.out.below hb1)
        have HE1 := Lib.hid (HE0.out.below hb1)
        have HNi := Lib.hid hni
        obtain ⟨q, hq⟩ : ∃ q, ((c : Int) == 60) = q := ⟨_, rfl⟩
        rw [hq] at HNi
        clear hb1 hni
        cases q
        all_goals go_wp2
        all_goals go_meet
        all_goals exact ⟨by rw [← HNi.out], HS1, U2, U3, HE1⟩
    case rest =>
      obtain ⟨rfl, HS1, U2, U3, HE1⟩ := hcut
      clear HS0 T2 T3 HE0
      cases c1 : ([60] : List UInt8).isPrefixOf l with
      | true =>
        have HD := Lib.hid (HR.out.trans (if_pos c1))
        have HI := Lib.hid (iri_calls rb l HV.out _ HE1.out hrb HS1.out.at')
        rw [if_pos c1] at HI
        have UL2 := up_len 62 false false (l.drop 1).length (l.drop 1) (Nat.le_refl _)
        have hdl : (l.drop 1).length ≤ l.length := by simp
        clear c1 HR
        generalize up 62 false false (l.drop 1) = R at *
        go_wp2_with fail
        refine HI.out.mono ?_
        intro e w2 hp
        cases R with
        | none =>
          obtain ⟨o, s, rfl, hs2⟩ := hp
          have HS2 := Lib.hid (HS1.out.trans hs2)
          have W2 := Lib.hid (U2.out.grown hs2.grown hn2)
          have W3 := Lib.hid (U3.out.grown hs2.grown hn3)
          have HE2 := Lib.hid (HE1.out.step hs2 hrb)
          clear hs2
          obtain ⟨k0, k1, k2, k3, k4, k5⟩ := W3.out
          simp only [Nat.zero_add] at k1 k2 k4 k5
          go_wp2
          go_meet
          refine Lib.hid ⟨⟨1, o, []⟩, W3.out.set ⟨1, o, []⟩, ((W2.out.other (Nat.ne_of_lt hz3) _).other (Nat.ne_of_lt hz3) _).other (Nat.ne_of_lt hz3) _, ((HE2.out.set (by omega) _).set (by omega) _).set (by omega) _, .inl ⟨HD.out, s, ((HS2.out.other (by omega) (by omega) _).other (by omega) (by omega) _).other (by omega) (by omega) _⟩⟩
        | some p2 =>
          obtain ⟨o, q⟩ := p2
          have hol := UL2 o q rfl
          obtain ⟨rfl, hs2, hvq⟩ := hp
          have HVq := Lib.hid hvq
          clear hvq
          have HS2 := Lib.hid (HS1.out.trans hs2)
          have W2 := Lib.hid (U2.out.grown hs2.grown hn2)
          have W3 := Lib.hid (U3.out.grown hs2.grown hn3)
          have HE2 := Lib.hid (HE1.out.step hs2 hrb)
          clear hs2
          obtain ⟨k0, k1, k2, k3, k4, k5⟩ := W3.out
          simp only [Nat.zero_add] at k1 k2 k4 k5
          go_wp2
          go_meet
          refine Lib.hid ⟨⟨1, o, []⟩, W3.out.set ⟨1, o, []⟩, ((W2.out.other (Nat.ne_of_lt hz3) _).other (Nat.ne_of_lt hz3) _).other (Nat.ne_of_lt hz3) _, ((HE2.out.set (by omega) _).set (by omega) _).set (by omega) _, .inr ⟨q, ((HS2.out.other (by omega) (by omega) _).other (by omega) (by omega) _).other (by omega) (by omega) _, HVq.out, ⟨by simp, by simp; omega, by simp⟩, by simp, .inl HD.out⟩⟩
      | false =>
        replace HR := Lib.hid (HR.out.trans (if_neg (by rw [c1]; decide)))
        clear c1
        have M2 := Lib.hid (valid_drop [95, 58] (by decide) l)
        have M3 := Lib.hid (valid_drop [34] (by decide) l)
        go_wp2_with fail
        refine (is_calls rb l [95, 58] _ HS1.out.at').mono ?_
        rintro e w2 ⟨rfl, hs2⟩
        have HS2 := Lib.hid (HS1.out.trans hs2)
        have U2 := Lib.hid (U2.out.grown hs2.grown hn2)
        have U3 := Lib.hid (U3.out.grown hs2.grown hn3)
        have HE2 := Lib.hid (HE1.out.step hs2 hrb)
        clear hs2
        cases c2 : ([95, 58] : List UInt8).isPrefixOf l with
        | true =>
          have HD := Lib.hid (HR.out.trans (if_pos c2))
          have HVq := Lib.hid (M2.out c2 HV.out)
          rw [c2] at HS2
          simp only [if_true, List.length_cons, List.length_nil, Nat.zero_add, Nat.reduceAdd] at HS2 HVq
          have hql : (l.drop 2).length ≤ l.length := by simp
          clear c2 HR M2 M3
          generalize l.drop 2 = q at *
          go_wp2_with fail
          refine (while_calls rb q _ false tells_plain _ HS2.out.at').mono ?_
          rintro e w3 ⟨rfl, hs2⟩
          have HS3 := Lib.hid (HS2.out.trans hs2)
          have U2 := Lib.hid (U2.out.grown hs2.grown hn2)
          have U3 := Lib.hid (U3.out.grown hs2.grown hn3)
          have HE3 := Lib.hid (HE2.out.step hs2 hrb)
          clear hs2
          have hr1 := run_fst_len false q
          have HVr := Lib.hid (run_valid false q HVq.out)
          generalize run false q = pr at *
          obtain ⟨ru, rq⟩ := pr
          dsimp only at *
          obtain ⟨k0, k1, k2, k3, k4, k5⟩ := U3.out
          simp only [Nat.zero_add] at k1 k2 k4 k5
          go_wp2
          go_meet
          refine Lib.hid ⟨⟨2, ru, []⟩, U3.out.set ⟨2, ru, []⟩, ((U2.out.other (Nat.ne_of_lt hz3) _).other (Nat.ne_of_lt hz3) _).other (Nat.ne_of_lt hz3) _, ((HE3.out.set (by omega) _).set (by omega) _).set (by omega) _, .inr ⟨rq, ((HS3.out.other (by omega) (by omega) _).other (by omega) (by omega) _).other (by omega) (by omega) _, HVr.out, ⟨by simp, by simp; omega, by simp⟩, by simp, .inl HD.out⟩⟩
        | false =>
          replace HR := Lib.hid (HR.out.trans (if_neg (by rw [c2]; decide)))
          rw [c2] at HS2
          simp only [Bool.false_eq_true, if_false] at HS2
          clear c2 M2
          go_wp2_with fail
          refine (is_calls rb l [34] _ HS2.out.at').mono ?_
          rintro e w3 ⟨rfl, hs2⟩
          have HS3 := Lib.hid (HS2.out.trans hs2)
          have U2 := Lib.hid (U2.out.grown hs2.grown hn2)
          have U3 := Lib.hid (U3.out.grown hs2.grown hn3)
          have HE3 := Lib.hid (HE2.out.step hs2 hrb)
          clear hs2
          cases c3 : ([34] : List UInt8).isPrefixOf l with
          | true =>
            have HD := Lib.hid (HR.out.trans (if_pos c3))
            have HVq := Lib.hid (M3.out c3 HV.out)
            rw [c3] at HS3
            simp only [if_true, List.length_cons, List.length_nil, Nat.zero_add] at HS3 HVq
            have hql : (l.drop 1).length ≤ l.length := by simp
            have HLE := Lib.hid (literal_extra (l.drop 1))
            clear c3 HR M3
            generalize l.drop 1 = q at *
            go_wp2_with fail
            refine (literal_calls rb q HVq.out _ HE3.out hrb HS3.out.at').mono ?_
            intro e w4 hp
            generalize literal false q = R at *
            cases R with
            | none =>
              obtain ⟨⟨⟨tk, tx, te⟩, rfl⟩, s, hs2⟩ := hp
              unfold termV
              have HS4 := Lib.hid (HS3.out.trans hs2)
              have U2 := Lib.hid (U2.out.grown hs2.grown hn2)
              have U3 := Lib.hid (U3.out.grown hs2.grown hn3)
              have HE4 := Lib.hid (HE3.out.step hs2 hrb)
              clear hs2
              obtain ⟨k0, k1, k2, k3, k4, k5⟩ := U3.out
              simp only [Nat.zero_add] at k1 k2 k4 k5
              go_wp2
              go_meet
              refine Lib.hid ⟨⟨tk, tx, te⟩, U3.out.set ⟨tk, tx, te⟩, ((U2.out.other (Nat.ne_of_lt hz3) _).other (Nat.ne_of_lt hz3) _).other (Nat.ne_of_lt hz3) _, ((HE4.out.set (by omega) _).set (by omega) _).set (by omega) _, .inl ⟨HD.out, s, ((HS4.out.other (by omega) (by omega) _).other (by omega) (by omega) _).other (by omega) (by omega) _⟩⟩
            | some p2 =>
              obtain ⟨⟨tk, tx, te⟩, y⟩ := p2
              obtain ⟨⟨rfl, hft⟩, hs2, hvy⟩ := hp
              have HFt := Lib.hid hft
              have HVy := Lib.hid hvy
              have HX := Lib.hid (HLE.out _ _ rfl)
              unfold termV
              clear hft hvy
              have HS4 := Lib.hid (HS3.out.trans hs2)
              have U2 := Lib.hid (U2.out.grown hs2.grown hn2)
              have U3 := Lib.hid (U3.out.grown hs2.grown hn3)
              have HE4 := Lib.hid (HE3.out.step hs2 hrb)
              clear hs2
              obtain ⟨k0, k1, k2, k3, k4, k5⟩ := U3.out
              simp only [Nat.zero_add] at k1 k2 k4 k5
              go_wp2
              go_meet
              refine Lib.hid ⟨⟨tk, tx, te⟩, U3.out.set ⟨tk, tx, te⟩, ((U2.out.other (Nat.ne_of_lt hz3) _).other (Nat.ne_of_lt hz3) _).other (Nat.ne_of_lt hz3) _, ((HE4.out.set (by omega) _).set (by omega) _).set (by omega) _, .inr ⟨y, ((HS4.out.other (by omega) (by omega) _).other (by omega) (by omega) _).other (by omega) (by omega) _, HVy.out, HFt.out, by have := HX.out; dsimp only at this ⊢; omega, .inl HD.out⟩⟩
          | false =>
            replace HR := Lib.hid (HR.out.trans (if_neg (by rw [c3]; decide)))
            rw [c3] at HS3
            simp only [Bool.false_eq_true, if_false] at HS3
            clear c3 M3
            go_wp2
            go_meet
            exact Lib.hid ⟨zeroT, U3.out, U2.out, HE3.out, .inr ⟨l, HS3.out, HV.out, ⟨by decide, by decide, by decide⟩, by decide, .inr ⟨HR.out, rfl⟩⟩⟩
  case rest =>
    obtain ⟨⟨tk, tx, te⟩, h3, h2, he2, hcase⟩ := hcut.out
    have hz2 := h3.lt
    have HT3 := Lib.hid h3
    have HT2 := Lib.hid h2
    have HE2 := Lib.hid he2
    clear hcut h3 h2 he2 HR T2 T3 HS0 HE0 HT
    rcases hcase with ⟨hd, s, hs⟩ | ⟨q, hs, hvq, hft, hex, hd⟩
    · have HD := Lib.hid (show term false l = none by rw [term, hd])
      have HS := Lib.hid hs
      obtain ⟨a0, a1, b0, b1, _⟩ := hs.at'
      clear hd hs
      obtain ⟨k0, k1, k2, k3, k4, k5⟩ := HT3.out
      simp only [Nat.zero_add] at k1 k2 k4 k5
      obtain ⟨m0, m1, m2, m3, m4, m5⟩ := HT2.out
      simp only [Nat.zero_add] at m1 m2 m4 m5
      dsimp only [zeroT] at *
      go_wp2
      refine bodyPost_ret (v := termV ⟨tk, tx, te⟩) (by simp [results, Tryz.results29, go_sem, hn2, hn3, m0, m1, m2, termV, mkS_nil]) rfl ?_
      rw [show term false l = none from HD.out]
      refine ⟨⟨_, rfl⟩, s, ?_⟩
      clear k0 k1 k2 k3 k4 k5
      clear m0 m1 m2 m3 m4 m5
      repeat first | exact HS.out.set1 true | exact HS.out | refine Step.other ?_ (by omega) (by omega) _
    · have HS := Lib.hid hs
      have HVq := Lib.hid hvq
      have HFt := Lib.hid hft
      have HD : Hid (term false l = if is ⟨tk, tx, te⟩ = true then some (⟨tk, tx, te⟩, q) else none) := Lib.hid (by
        rcases hd with hd | ⟨hd, hi⟩
        · rw [term, hd]
        · rw [term, hd, hi]
          rfl)
      have HPi := Lib.hid (pis_calls ⟨tk, tx, te⟩ hft (by dsimp only at hex ⊢; omega))
      obtain ⟨a0, a1, b0, b1, _⟩ := hs.at'
      clear hd hs hvq hft hex
      obtain ⟨k0, k1, k2, k3, k4, k5⟩ := HT3.out
      simp only [Nat.zero_add] at k1 k2 k4 k5
      obtain ⟨m0, m1, m2, m3, m4, m5⟩ := HT2.out
      simp only [Nat.zero_add] at m1 m2 m4 m5
      dsimp only [zeroT] at *
      go_wp2_with fail
      refine (HPi.out _ HE2.out).mono ?_
      rintro e w3 ⟨rfl, hb3⟩
      have HS3 := Lib.hid (HS.out.below hb3)
      have HU3 := Lib.hid (HT3.out.below hb3)
      have HU2 := Lib.hid (HT2.out.below hb3)
      clear hb3 a0 a1 b0 b1
      clear k0 k1 k2 k3 k4 k5
      clear m0 m1 m2 m3 m4 m5
      obtain ⟨a0, a1, b0, b1, _⟩ := HS3.out.at'
      obtain ⟨k0, k1, k2, k3, k4, k5⟩ := HU3.out
      simp only [Nat.zero_add] at k1 k2 k4 k5
      obtain ⟨m0, m1, m2, m3, m4, m5⟩ := HU2.out
      simp only [Nat.zero_add] at m1 m2 m4 m5
      dsimp only at *
      cases hi : is ⟨tk, tx, te⟩ with
      | true =>
        have HD1 := Lib.hid (HD.out.trans (if_pos hi))
        clear hi HD
        go_wp2
        refine bodyPost_ret (v := termV ⟨tk, tx, te⟩) (by simp [results, Tryz.results29, go_sem, hn2, hn3, m0, m1, m2, termV, mkS_nil]) rfl ?_
        rw [show term false l = some (⟨tk, tx, te⟩, q) from HD1.out]
        refine ⟨⟨rfl, HFt.out⟩, ?_, HVq.out⟩
        clear k0 k1 k2 k3 k4 k5
        clear m0 m1 m2 m3 m4 m5
        repeat first | exact HS3.out | refine Step.other ?_ (by omega) (by omega) _
      | false =>
        have HD1 := Lib.hid (HD.out.trans (if_neg (by rw [hi]; decide)))
        clear hi HD
        go_wp2
        refine bodyPost_ret (v := termV ⟨tk, tx, te⟩) (by simp [results, Tryz.results29, go_sem, hn2, hn3, m0, m1, m2, termV, mkS_nil]) rfl ?_
        rw [show term false l = none from HD1.out]
        refine ⟨⟨_, rfl⟩, q, ?_⟩
        clear k0 k1 k2 k3 k4 k5
        clear m0 m1 m2 m3 m4 m5
        repeat first | exact HS3.out.set1 true | exact HS3.out | refine Step.other ?_ (by omega) (by omega) _
end Go.Proofs.YtmcoloapiiakbaaGreatDoor.Prg
