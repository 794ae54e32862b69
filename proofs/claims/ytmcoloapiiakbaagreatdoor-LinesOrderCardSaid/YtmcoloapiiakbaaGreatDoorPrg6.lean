/-
  What the program's reader of lines answers: IRIs, literals.
-/
import Derived.Test.YtmcoloapiiakbaaGreatDoorPrg5
import Derived.Test.YtmcoloapiiakbaaGreatDoorRef5h
set_option linter.unusedVariables false
set_option linter.unusedSimpArgs false
namespace Go.Proofs.YtmcoloapiiakbaaGreatDoor.Prg
open Go.RowKit Go.Lib Go.Proofs.YtmcoloapiiakbaaGreatDoor.B Go.Proofs.YtmcoloapiiakbaaGreatDoor.Rd Go.Proofs.YtmcoloapiiakbaaGreatDoor.Utf Go.Proofs.YtmcoloapiiakbaaGreatDoor.TermPure Go.Proofs.YtmcoloapiiakbaaGreatDoor.LinesPure Go.Proofs.YtmcoloapiiakbaaGreatDoor.Tx Go.Proofs.YtmcoloapiiakbaaGreatDoor.Env Go.Proofs.YtmcoloapiiakbaaGreatDoor.Bld Go.Proofs.YtmcoloapiiakbaaGreatDoor.Tc
open Go.Proofs.YtmcoloapiiakbaaGreatDoor.Ref5 (termV Fits tripleV FitsT up_len run_fst_len run_snd_len low_len zeroTr T9 oneV FitsO Next)

set_option maxHeartbeats 1600000 in
theorem until_bad_calls (rb : Nat) (l : List UInt8) (stop : UInt8) (lit : Bool) (w : World) (h : At w rb l true) :
    Calls Tryz.prog 81 #[.pointer (some ⟨rb, 0, none⟩), .int .i32 (stop.toNat : Int), .bool lit] w fun e w' => (∃ o, e = .returned (.string (mkS o))) ∧ Step w w' rb l true := by
  have hlt := h.lt
  have HS0 := Lib.hid ((Step.refl h).alloc (.cells #[.pointer none, .slice none 0 0] 65))
  have HB0 := Lib.hid (Bld.new w)
  obtain ⟨c0, c1, f0, f1, _⟩ := h
  go_enter Tryz.func81, Tryz.ntmps81
  go_wp2
  go_step3
  go_wp2
  go_step3
  go_wp2
  go_loopg [] 0 (fun n wr => wr = w.alloc (.cells #[.pointer none, .slice none 0 0] 65))
  case atStart => rfl
  case round =>
    subst hrel
    go_wp2_with fail
    refine (string_calls _ _ [] _ HB0.out (by simp)).mono ?_
    rintro e w2 ⟨rfl, _, hb2⟩
    have HS2 := Lib.hid (HS0.out.belowB hb2 hlt)
    clear hb2
    go_wp2
    rw [Exit.noGoto_ret]
    go_ret
    exact ⟨⟨_, rfl⟩, HS2.out⟩
set_option maxHeartbeats 1600000 in
theorem iri_calls (rb : Nat) (l : List UInt8) (hv : validD l = true) (w : World) (he : Env w) (hrb : lowB ≤ rb) (h : At w rb l false) :
    Calls Tryz.prog 54 #[.pointer (some ⟨rb, 0, none⟩)] w fun e w' => UntPost w rb (if ([60] : List UInt8).isPrefixOf l = true then up 62 false false (l.drop 1) else none) e w' := by
  have HM := Lib.hid (must_calls rb l [60] w h)
  have HE := Lib.hid he
  have HV := Lib.hid (valid_drop [60] (by decide) l)
  have HVl := Lib.hid hv
  clear h he hv
  cases hp : ([60] : List UInt8).isPrefixOf l with
  | true =>
    rw [hp] at HM
    simp only [if_true, Bool.not_true, List.length_cons, List.length_nil, Nat.zero_add] at HM
    have HVq := Lib.hid (HV.out hp HVl.out)
    simp only [List.length_cons, List.length_nil, Nat.zero_add] at HVq
    rw [if_pos rfl]
    clear hp HV
    generalize l.drop 1 = q at *
    go_enter Tryz.func54, Tryz.ntmps54
    go_wp2_with fail
    refine HM.out.mono ?_
    rintro e w1 ⟨rfl, hs1⟩
    have HS1 := Lib.hid hs1
    have HE1 := Lib.hid (HE.out.step hs1 hrb)
    clear hs1 HM
    go_wp2_with fail
    refine (until_calls rb q 62 (by decide) (by decide) false HVq.out _ HE1.out hrb HS1.out.at').mono ?_
    intro e w2 hp
    cases hu : up 62 false false q with
    | none =>
      rw [hu] at hp
      obtain ⟨o, s, rfl, hs2⟩ := hp
      have HS2 := Lib.hid (HS1.out.trans hs2)
      have HU := Lib.hid hu
      clear hs2 hu
      go_wp2
      go_ret
      rw [HU.out]
      exact ⟨_, _, rfl, HS2.out⟩
    | some p =>
      obtain ⟨o, r⟩ := p
      rw [hu] at hp
      obtain ⟨rfl, hs2, hvr⟩ := hp
      have HS2 := Lib.hid (HS1.out.trans hs2)
      have HU := Lib.hid hu
      have HVr := Lib.hid hvr
      clear hs2 hu hvr
      go_wp2
      go_ret
      rw [HU.out]
      exact ⟨rfl, HS2.out, HVr.out⟩
  | false =>
    rw [hp] at HM
    simp only [Bool.false_eq_true, if_false, Bool.not_false] at HM
    rw [if_neg (by decide)]
    clear hp HV
    go_enter Tryz.func54, Tryz.ntmps54
    go_wp2_with fail
    refine HM.out.mono ?_
    rintro e w1 ⟨rfl, hs1⟩
    have HS1 := Lib.hid hs1
    clear hs1 HM
    go_wp2_with fail
    refine (until_bad_calls rb l 62 false _ HS1.out.at').mono ?_
    rintro e w2 ⟨⟨o, rfl⟩, hs2⟩
    have HS2 := Lib.hid (HS1.out.trans hs2)
    clear hs2
    go_wp2
    go_ret
    exact ⟨_, _, rfl, HS2.out⟩
/-- What the program's reader tells of a term. -/
def PTermPost (w : World) (rb : Nat) (r : Option (Term × List UInt8)) (e : Ending) (w' : World) : Prop := match r with
  | none => (∃ t : Term, e = .returned (termV t)) ∧ ∃ s, Step w w' rb s true
  | some (t, q) => (e = .returned (termV t) ∧ Fits t) ∧ Step w w' rb q false ∧ validD q = true
theorem toLower_calls (u : List UInt8) (hu : u.length ≤ 140737488355328) (ha : ∀ b ∈ u, b.toNat < 128) (w : World) :
    Calls Tryz.prog 84 #[.string (mkS u)] w fun e w' => e = .returned (.string (mkS (toLowerA u))) ∧ Below w.heap.size w w' :=
  Tryz.strings_ToLower_ascii (mkS u) w (by rw [mkS_size]; exact hu) (fun j b hb => ha b (List.mem_of_getElem? hb))
set_option maxRecDepth 100000 in
set_option maxHeartbeats 6400000 in
theorem literal_calls (rb : Nat) (l : List UInt8) (hv : validD l = true) (w : World) (he : Env w) (hrb : lowB ≤ rb) (h : At w rb l false) :
    Calls Tryz.prog 58 #[.pointer (some ⟨rb, 0, none⟩)] w fun e w' => PTermPost w rb (literal false l) e w' := by
  have hlt := h.lt
  have hlen := h.len
  have HS0 := Lib.hid ((Step.refl h).alloc (.cells #[.int .i64 0, .string (mkS []), .string (mkS [])] 23))
  have T0 := Lib.hid (TC.new w zeroT)
  have HE0 := Lib.hid (he.below (bel_alloc (Below.refl _ _) (.cells #[.int .i64 0, .string (mkS []), .string (mkS [])] 23)))
  have HVl := Lib.hid hv
  have hn1 : ¬ w.heap.size = rb := by omega
  have HL : Hid (literal false l = match up 34 true true l with
  | none => none
  | some (t, r) =>
    if [64].isPrefixOf r = true then some (⟨4, t, toLowerA (run true (r.drop 1)).1⟩, (run true (r.drop 1)).2)
    else if [94, 94].isPrefixOf r = true then
      if [60].isPrefixOf (r.drop 2) = true then (up 62 false false (r.drop 3)).map fun x => (⟨5, t, x.1⟩, x.2)
      else if false = true then some (⟨3, t, []⟩, r) else none
    else some (⟨3, t, []⟩, r)) := Lib.hid rfl
  clear h he hv
  go_enter Tryz.func58, Tryz.ntmps58
  go_wp2_with fail
  refine (until_calls rb l 34 (by decide) (by decide) true HVl.out _ HE0.out hrb HS0.out.at').mono ?_
  intro e w1 hp
  have UL := up_len 34 true true l.length l (Nat.le_refl _)
  cases hu : up 34 true true l with
  | none =>
    rw [hu] at hp HL
    obtain ⟨o, s, rfl, hs1⟩ := hp
    have HS1 := Lib.hid (HS0.out.trans hs1)
    have T1 := Lib.hid (T0.out.grown hs1.grown hn1)
    have hz1 : w.heap.size < w1.heap.size := T1.out.lt
    have hn2 : ¬ w1.heap.size = rb := by omega
    have hn3 : ¬ w1.heap.size = w.heap.size := by omega
    have hn4 : ¬ w.heap.size = w1.heap.size := by omega
    have HS2 := Lib.hid (HS1.out.alloc (.cells #[.int .i64 3, .string (mkS o), .string (mkS [])] 23))
    have T2 := Lib.hid (T1.out.alloc (.cells #[.int .i64 3, .string (mkS o), .string (mkS [])] 23))
    have T3 := Lib.hid (TC.new w1 ⟨3, o, []⟩)
    clear hs1 hu UL
    go_wp2_with fail
    refine (is_bad_calls rb s [64] _ HS2.out.at').mono ?_
    rintro e w2 ⟨rfl, rfl⟩
    go_wp2_with fail
    refine (is_bad_calls rb s [94, 94] _ HS2.out.at').mono ?_
    rintro e w2 ⟨rfl, rfl⟩
    obtain ⟨m0, m1, m2, m3, m4, m5⟩ := T1.out
    simp only [Nat.zero_add] at m1 m2 m4 m5
    dsimp only [zeroT] at *
    go_wp2
    refine bodyPost_ret (v := termV ⟨3, o, []⟩) (by simp [results, Tryz.results58, go_sem, hn1, hn2, hn3, hn4, hz1, m0, m1, m2, termV, mkS_nil]) rfl ?_
    rw [HL.out]
    refine ⟨⟨_, rfl⟩, s, ?_⟩
    clear m0 m1 m2 m3 m4 m5
    repeat first | exact HS2.out | exact HS1.out | refine Step.alloc ?_ _ | refine Step.other ?_ (by omega) (by omega) _
  | some p =>
    obtain ⟨t, r⟩ := p
    have hlen2 := UL t r hu
    rw [hu] at hp HL
    obtain ⟨rfl, hs1, hvr⟩ := hp
    dsimp only at HL
    have HS1 := Lib.hid (HS0.out.trans hs1)
    have T1 := Lib.hid (T0.out.grown hs1.grown hn1)
    have HE1 := Lib.hid (HE0.out.step hs1 hrb)
    have HV1 := Lib.hid hvr
    have hz1 : w.heap.size < w1.heap.size := T1.out.lt
    have hn2 : ¬ w1.heap.size = rb := by omega
    have hn3 : ¬ w1.heap.size = w.heap.size := by omega
    have hn4 : ¬ w.heap.size = w1.heap.size := by omega
    have HS2 := Lib.hid (HS1.out.alloc (.cells #[.int .i64 3, .string (mkS t), .string (mkS [])] 23))
    have HE2 := Lib.hid (HE1.out.below (bel_alloc (Below.refl _ _) (.cells #[.int .i64 3, .string (mkS t), .string (mkS [])] 23)))
    have T2 := Lib.hid (T1.out.alloc (.cells #[.int .i64 3, .string (mkS t), .string (mkS [])] 23))
    have T3 := Lib.hid (TC.new w1 ⟨3, t, []⟩)
    have ML := Lib.hid (valid_drop [64] (by decide) r)
    have MC := Lib.hid (valid_drop [94, 94] (by decide) r)
    clear hs1 hu UL hvr
    go_wp2_with fail
    refine (is_calls rb r [64] _ HS2.out.at').mono ?_
    rintro e w2 ⟨rfl, hs2⟩
    have HS3 := Lib.hid (HS2.out.trans hs2)
    have HE3 := Lib.hid (HE2.out.step hs2 hrb)
    have U2 := Lib.hid (T2.out.grown hs2.grown hn1)
    have U3 := Lib.hid (T3.out.grown hs2.grown hn2)
    have hz2 : w1.heap.size < w2.heap.size := U3.out.lt
    clear hs2
    cases c1 : ([64] : List UInt8).isPrefixOf r with
    | true =>
      have HD := Lib.hid (HL.out.trans (if_pos c1))
      have HVq := Lib.hid (ML.out c1 HV1.out)
      rw [c1] at HS3
      simp only [if_true, List.length_cons, List.length_nil, Nat.zero_add] at HS3 HVq
      have hql : (r.drop 1).length ≤ r.length := by simp
      clear c1 HL ML MC
      generalize r.drop 1 = q at *
      obtain ⟨k0, k1, k2, k3, k4, k5⟩ := U3.out
      simp only [Nat.zero_add] at k1 k2 k4 k5
      dsimp only [zeroT] at *
      go_wp2_with fail
      have HS4 := Lib.hid (HS3.out.other (g := w1.heap.size) (j := 0) (by omega) hn2 (.int .i64 4))
      have X2 := Lib.hid (U2.out.other (g' := w1.heap.size) (j := 0) hn4 (.int .i64 4))
      refine (while_calls rb q _ true tells_dash _ HS4.out.at').mono ?_
      rintro e w3 ⟨rfl, hs5⟩
      have HS5 := Lib.hid (HS4.out.trans hs5)
      have Y2 := Lib.hid (X2.out.grown hs5.grown hn1)
      have Z3 : Hid (TC w3 w1.heap.size 0 ⟨4, t, []⟩) := Lib.hid ((U3.out.setK 4).grown hs5.grown hn2)
      have hz3 : w1.heap.size < w3.heap.size := Z3.out.lt
      have hrl := run_fst_len true q
      have hra := run_ascii true q
      have HVr := Lib.hid (run_valid true q HVq.out)
      generalize run true q = pr at *
      obtain ⟨ru, rq⟩ := pr
      dsimp only at *
      have HA := Lib.hid hra
      clear k0 k1 k2 k3 k4 k5
      clear hs5 hra
      go_wp2_with fail
      refine (toLower_calls ru (by omega) HA.out _).mono ?_
      rintro e w4 ⟨rfl, hb6⟩
      have HS6 := Lib.hid (HS5.out.below hb6)
      have V2 := Lib.hid (Y2.out.below hb6)
      have V3 := Lib.hid (Z3.out.below hb6)
      have hll := low_len ru
      generalize toLowerA ru = lo at *
      clear hb6
      obtain ⟨m0, m1, m2, m3, m4, m5⟩ := V2.out
      simp only [Nat.zero_add] at m1 m2 m4 m5
      dsimp only [zeroT] at *
      obtain ⟨k0, k1, k2, k3, k4, k5⟩ := V3.out
      simp only [Nat.zero_add] at k1 k2 k4 k5
      dsimp only [zeroT] at *
      go_wp2
      refine bodyPost_ret (v := termV ⟨4, t, lo⟩) (by simp [results, Tryz.results58, go_sem, hn1, hn2, hn3, hn4, hz1, m0, m1, m2, termV, mkS_nil]) rfl ?_
      rw [HD.out]
      refine ⟨⟨rfl, by simp, by simp; omega, by simp; omega⟩, ?_, HVr.out⟩
      clear m0 m1 m2 m3 m4 m5
      clear k0 k1 k2 k3 k4 k5
      repeat first | exact HS6.out | refine Step.alloc ?_ _ | refine Step.other ?_ (by omega) (by omega) _
    | false =>
      have HD := Lib.hid (HL.out.trans (if_neg (by rw [c1]; decide)))
      rw [c1] at HS3
      simp only [Bool.false_eq_true, if_false] at HS3
      clear c1 HL ML
      go_wp2_with fail
      refine (is_calls rb r [94, 94] _ HS3.out.at').mono ?_
      rintro e w3 ⟨rfl, hs4⟩
      have HS4 := Lib.hid (HS3.out.trans hs4)
      have HE4 := Lib.hid (HE3.out.step hs4 hrb)
      have X2 := Lib.hid (U2.out.grown hs4.grown hn1)
      have X3 := Lib.hid (U3.out.grown hs4.grown hn2)
      have hz3 : w1.heap.size < w3.heap.size := X3.out.lt
      clear hs4
      cases c2 : ([94, 94] : List UInt8).isPrefixOf r with
      | true =>
        have HD2 := Lib.hid (HD.out.trans (if_pos c2))
        have HVq := Lib.hid (MC.out c2 HV1.out)
        rw [c2] at HS4
        simp only [if_true, List.length_cons, List.length_nil, Nat.zero_add, Nat.reduceAdd] at HS4 HVq
        rw [show r.drop 3 = (r.drop 2).drop 1 by rw [List.drop_drop]] at HD2
        have hql : (r.drop 2).length ≤ r.length := by simp
        clear c2 HD MC
        generalize r.drop 2 = q at *
        obtain ⟨k0, k1, k2, k3, k4, k5⟩ := X3.out
        simp only [Nat.zero_add] at k1 k2 k4 k5
        dsimp only [zeroT] at *
        go_wp2_with fail
        have HS5 := Lib.hid (HS4.out.other (g := w1.heap.size) (j := 0) (by omega) hn2 (.int .i64 5))
        have HE5 := Lib.hid (HE4.out.set (g := w1.heap.size) (j := 0) (by omega) (.int .i64 5))
        have Y2 := Lib.hid (X2.out.other (g' := w1.heap.size) (j := 0) hn4 (.int .i64 5))
        have Y3 : Hid (TC (w3.setCell ⟨w1.heap.size, 0, none⟩ (.int .i64 5)) w1.heap.size 0 ⟨5, t, []⟩) := Lib.hid (X3.out.setK 5)
        refine (iri_calls rb q HVq.out _ HE5.out hrb HS5.out.at').mono ?_
        intro e w4 hp
        have HQ : Hid (literal false l = (if ([60] : List UInt8).isPrefixOf q = true then up 62 false false (q.drop 1) else none).map fun x => (⟨5, t, x.1⟩, x.2)) := Lib.hid (by
          rw [HD2.out]
          split
          · rfl
          · rfl)
        have UL2 := up_len 62 false false (q.drop 1).length (q.drop 1) (Nat.le_refl _)
        have hU : ∀ o r', (if ([60] : List UInt8).isPrefixOf q = true then up 62 false false (q.drop 1) else none) = some (o, r') → o.length + r'.length ≤ q.length := fun o r' h => by
          split at h
          · have := UL2 o r' h
            simp at this
            omega
          · cases h
        clear k0 k1 k2 k3 k4 k5
        clear HD2 UL2
        generalize (if ([60] : List UInt8).isPrefixOf q = true then up 62 false false (q.drop 1) else none) = R at *
        cases R with
        | none =>
          obtain ⟨o, s, rfl, hs6⟩ := hp
          have HS6 := Lib.hid (HS5.out.trans hs6)
          have W2 := Lib.hid (Y2.out.grown hs6.grown hn1)
          have W3 := Lib.hid (Y3.out.grown hs6.grown hn2)
          have hz4 : w1.heap.size < w4.heap.size := W3.out.lt
          clear hs6
          clear hU
          obtain ⟨m0, m1, m2, m3, m4, m5⟩ := W2.out
          simp only [Nat.zero_add] at m1 m2 m4 m5
          dsimp only [zeroT] at *
          obtain ⟨k0, k1, k2, k3, k4, k5⟩ := W3.out
          simp only [Nat.zero_add] at k1 k2 k4 k5
          dsimp only [zeroT] at *
          go_wp2
          refine bodyPost_ret (v := termV ⟨5, t, o⟩) (by simp [results, Tryz.results58, go_sem, hn1, hn2, hn3, hn4, hz1, m0, m1, m2, termV, mkS_nil]) rfl ?_
          rw [HQ.out]
          refine ⟨⟨_, rfl⟩, s, ?_⟩
          clear m0 m1 m2 m3 m4 m5
          clear k0 k1 k2 k3 k4 k5
          repeat first | exact HS6.out | refine Step.alloc ?_ _ | refine Step.other ?_ (by omega) (by omega) _
        | some p2 =>
          obtain ⟨o, r'⟩ := p2
          obtain ⟨rfl, hs6, hv6⟩ := hp
          have hol := hU o r' rfl
          have HV6 := Lib.hid hv6
          have HS6 := Lib.hid (HS5.out.trans hs6)
          have W2 := Lib.hid (Y2.out.grown hs6.grown hn1)
          have W3 := Lib.hid (Y3.out.grown hs6.grown hn2)
          have hz4 : w1.heap.size < w4.heap.size := W3.out.lt
          clear hs6
          clear hU hv6
          obtain ⟨m0, m1, m2, m3, m4, m5⟩ := W2.out
          simp only [Nat.zero_add] at m1 m2 m4 m5
          dsimp only [zeroT] at *
          obtain ⟨k0, k1, k2, k3, k4, k5⟩ := W3.out
          simp only [Nat.zero_add] at k1 k2 k4 k5
          dsimp only [zeroT] at *
          go_wp2
          refine bodyPost_ret (v := termV ⟨5, t, o⟩) (by simp [results, Tryz.results58, go_sem, hn1, hn2, hn3, hn4, hz1, m0, m1, m2, termV, mkS_nil]) rfl ?_
          rw [HQ.out]
          refine ⟨⟨rfl, by simp, by simp; omega, by simp; omega⟩, ?_, HV6.out⟩
          clear m0 m1 m2 m3 m4 m5
          clear k0 k1 k2 k3 k4 k5
          repeat first | exact HS6.out | refine Step.alloc ?_ _ | refine Step.other ?_ (by omega) (by omega) _
      | false =>
        have HD2 := Lib.hid (HD.out.trans (if_neg (by rw [c2]; decide)))
        rw [c2] at HS4
        simp only [Bool.false_eq_true, if_false] at HS4
        clear c2 HD MC
        obtain ⟨m0, m1, m2, m3, m4, m5⟩ := X2.out
        simp only [Nat.zero_add] at m1 m2 m4 m5
        dsimp only [zeroT] at *
        obtain ⟨k0, k1, k2, k3, k4, k5⟩ := X3.out
        simp only [Nat.zero_add] at k1 k2 k4 k5
        dsimp only [zeroT] at *
        go_wp2
        refine bodyPost_ret (v := termV ⟨3, t, []⟩) (by simp [results, Tryz.results58, go_sem, hn1, hn2, hn3, hn4, hz1, m0, m1, m2, termV, mkS_nil]) rfl ?_
        rw [HD2.out]
        refine ⟨⟨rfl, by simp, by simp; omega, by simp⟩, ?_, HV1.out⟩
        clear m0 m1 m2 m3 m4 m5
        clear k0 k1 k2 k3 k4 k5
        repeat first | exact HS4.out | refine Step.alloc ?_ _ | refine Step.other ?_ (by omega) (by omega) _
end Go.Proofs.YtmcoloapiiakbaaGreatDoor.Prg
