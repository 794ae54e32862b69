/-
  What the reference of lines answers: a line.
-/
import Derived.Test.YtmcoloapiiakbaaGreatDoorTc
import Derived.Deep.CutBlock
set_option linter.unusedVariables false
set_option linter.unusedSimpArgs false
namespace Go.Proofs.YtmcoloapiiakbaaGreatDoor.Ref5
open Go.RowKit Go.Lib Go.Proofs.YtmcoloapiiakbaaGreatDoor.B Go.Proofs.YtmcoloapiiakbaaGreatDoor.Rd Go.Proofs.YtmcoloapiiakbaaGreatDoor.Utf Go.Proofs.YtmcoloapiiakbaaGreatDoor.TermPure Go.Proofs.YtmcoloapiiakbaaGreatDoor.LinesPure Go.Proofs.YtmcoloapiiakbaaGreatDoor.Tx Go.Proofs.YtmcoloapiiakbaaGreatDoor.Env Go.Proofs.YtmcoloapiiakbaaGreatDoor.Tc

/-- What has been read of a term ahead of the check. -/
def RawPost (w : World) (rb g2 g3 : Nat) (s : List UInt8) (wx : World) : Prop :=
  ∃ t : Term, Fits t ∧ TC wx g3 0 t ∧ TC wx g2 0 zeroT ∧
    ((rawTerm true s = none ∧ Step w wx rb [] true) ∨ (∃ q, Step w wx rb q false ∧ (rawTerm true s = some (t, q) ∨ (rawTerm true s = none ∧ is t = false))))
theorem two_zero {w : World} (W : World) (h : W.heap.size = w.heap.size) :
    TC ((W.alloc (.cells #[.int .i64 0, .string (mkS []), .string (mkS [])] 23)).alloc (.cells #[.int .i64 0, .string (mkS []), .string (mkS [])] 23)) w.heap.size 0 zeroT ∧
    TC ((W.alloc (.cells #[.int .i64 0, .string (mkS []), .string (mkS [])] 23)).alloc (.cells #[.int .i64 0, .string (mkS []), .string (mkS [])] 23)) (w.heap.size + 1) 0 zeroT := by
  refine ⟨?_, ?_⟩
  · rw [← h]
    exact (TC.new W zeroT).alloc _
  · rw [← h]
    have := TC.new (W.alloc (.cells #[.int .i64 0, .string (mkS []), .string (mkS [])] 23)) zeroT
    simpa [zeroT] using this
theorem rawTerm_no (l : List UInt8) (h1 : ([60] : List UInt8).isPrefixOf l = false) (h2 : ([95, 58] : List UInt8).isPrefixOf l = false) (h3 : ([34] : List UInt8).isPrefixOf l = false) (ref : Bool) : rawTerm ref l = none := by
  rw [rawTerm, h1, h2, h3]
  rfl
set_option maxRecDepth 100000 in
set_option maxHeartbeats 3200000 in
theorem term_calls (rb : Nat) (s : List UInt8) (w : World) (he : Env w) (hrb : lowB ≤ rb) (h : At w rb s false) :
    Calls Tryz.prog 33 #[.pointer (some ⟨rb, 0, none⟩)] w fun e w' => TermPost w rb ((term true s).map fun x => (x.1, blanks x.2)) e w' := by
  have hlt := h.lt
  have hlen := h.len
  have HE := Lib.hid he
  have HS0 := Lib.hid (((Step.refl h).alloc (.cells #[.int .i64 0, .string (mkS []), .string (mkS [])] 23)).alloc (.cells #[.int .i64 0, .string (mkS []), .string (mkS [])] 23))
  have HT := Lib.hid (two_zero (w := w))
  have T2 := Lib.hid (HT.out w rfl).1
  have T3 := Lib.hid (HT.out w rfl).2
  have HSr := Lib.hid (Step.refl h)
  have hn2 : ¬ w.heap.size = rb := by omega
  have hn3 : ¬ w.heap.size + 1 = rb := by omega
  have hz3 : w.heap.size < w.heap.size + 1 := by omega
  have HR : Hid (rawTerm true s = if ([60] : List UInt8).isPrefixOf s = true then (up 62 false true (s.drop 1)).map fun x => (⟨1, x.1, []⟩, x.2)
    else if ([95, 58] : List UInt8).isPrefixOf s = true then some (⟨2, (run false (s.drop 2)).1, []⟩, (run false (s.drop 2)).2)
    else if ([34] : List UInt8).isPrefixOf s = true then literal true (s.drop 1)
    else none) := Lib.hid rfl
  obtain ⟨a0, a1, b0, b1, _⟩ := h
  have zs := mkS_size s
  clear he
  go_enter Tryz.func33, Tryz.ntmps33
  go_upto_block 0 with fail
  go_cut [] (fun wx => Hid (RawPost w rb w.heap.size (w.heap.size + 1) s wx))
  case first =>
    go_wp2_with fail
    refine (has_calls rb s [60] false (by decide) _ HS0.out.at').mono ?_
    rintro e w2 ⟨rfl, rfl⟩
    cases c1 : ([60] : List UInt8).isPrefixOf s with
    | true =>
      have HD := Lib.hid (HR.out.trans (if_pos c1))
      have hl1 := prefix_len _ _ c1
      have hx := drop1 s
      have hi1 : (1 : Int) ≤ (s.length : Int) := by simp at hl1; omega
      obtain ⟨q, hq⟩ : ∃ q, s.drop 1 = q := ⟨_, rfl⟩
      have hql : q.length ≤ s.length := by rw [← hq]; simp
      rw [hq] at HD hx
      clear c1 hq
      have HS1 := Lib.hid (((HSr.out.set0 (t := q) (by omega)).alloc (.cells #[.int .i64 0, .string (mkS []), .string (mkS [])] 23)).alloc (.cells #[.int .i64 0, .string (mkS []), .string (mkS [])] 23))
      have HT3 := Lib.hid (HT.out (w.setCell ⟨rb, 0, none⟩ (.string (mkS q))) (World.size_setCell _ _ _)).2
      have HT2 := Lib.hid (HT.out (w.setCell ⟨rb, 0, none⟩ (.string (mkS q))) (World.size_setCell _ _ _)).1
      go_wp2_with fail
      refine (upTo_calls rb q false false 62 _ HS1.out.at').mono ?_
      intro e w2 hp
      have UL2 := up_len 62 false true q.length q (Nat.le_refl _)
      obtain ⟨hc0, hf0⟩ : True ∧ True := ⟨trivial, trivial⟩
      cases hu2 : up 62 false true q with
      | none =>
        rw [hu2] at hp HD
        obtain ⟨rfl, hs2⟩ := hp
        have HS2 := Lib.hid (HS1.out.trans hs2)
        have HU3 := Lib.hid (HT3.out.grown hs2.grown hn3)
        have HU2 := Lib.hid (HT2.out.grown hs2.grown hn2)
        obtain ⟨k0, k1, k2, l0, l1, l2⟩ := HU3.out
        simp only [Nat.zero_add] at k1 k2 l1 l2
        clear hc0 hf0
        clear hs2 hu2 UL2
        go_wp2
        go_meet
        refine Lib.hid ⟨⟨1, [], []⟩, ⟨by simp, by simp, by simp⟩, HU3.out.set ⟨1, [], []⟩, ((HU2.out.other (Nat.ne_of_lt hz3) _).other (Nat.ne_of_lt hz3) _).other (Nat.ne_of_lt hz3) _, .inl ⟨HD.out, ((HS2.out.other (by omega) (by omega) _).other (by omega) (by omega) _).other (by omega) (by omega) _⟩⟩
      | some p2 =>
        obtain ⟨x, y⟩ := p2
        have hxy := UL2 x y hu2
        rw [hu2] at hp HD
        obtain ⟨rfl, hs2⟩ := hp
        have HS2 := Lib.hid (HS1.out.trans hs2)
        have HU3 := Lib.hid (HT3.out.grown hs2.grown hn3)
        have HU2 := Lib.hid (HT2.out.grown hs2.grown hn2)
        obtain ⟨k0, k1, k2, l0, l1, l2⟩ := HU3.out
        simp only [Nat.zero_add] at k1 k2 l1 l2
        clear hc0 hf0
        clear hs2 hu2 UL2
        go_wp2
        go_meet
        refine Lib.hid ⟨⟨1, x, []⟩, ⟨by simp, by simp; omega, by simp⟩, HU3.out.set ⟨1, x, []⟩, ((HU2.out.other (Nat.ne_of_lt hz3) _).other (Nat.ne_of_lt hz3) _).other (Nat.ne_of_lt hz3) _, .inr ⟨y, ((HS2.out.other (by omega) (by omega) _).other (by omega) (by omega) _).other (by omega) (by omega) _, .inl HD.out⟩⟩
    | false =>
      have HD := Lib.hid (HR.out.trans (if_neg (by rw [c1]; decide)))
      have C1 := Lib.hid c1
      clear c1 HR
      go_wp2_with fail
      refine (has_calls rb s [95, 58] false (by decide) _ HS0.out.at').mono ?_
      rintro e w2 ⟨rfl, rfl⟩
      cases c2 : ([95, 58] : List UInt8).isPrefixOf s with
      | true =>
        replace HD := Lib.hid (HD.out.trans (if_pos c2))
        have hl1 := prefix_len _ _ c2
        have hx := drop2 s
        have hi1 : (2 : Int) ≤ (s.length : Int) := by simp at hl1; omega
        obtain ⟨q, hq⟩ : ∃ q, s.drop 2 = q := ⟨_, rfl⟩
        have hql : q.length ≤ s.length := by rw [← hq]; simp
        rw [hq] at HD hx
        clear c2 hq
        have HS1 := Lib.hid (((HSr.out.set0 (t := q) (by omega)).alloc (.cells #[.int .i64 0, .string (mkS []), .string (mkS [])] 23)).alloc (.cells #[.int .i64 0, .string (mkS []), .string (mkS [])] 23))
        have HT3 := Lib.hid (HT.out (w.setCell ⟨rb, 0, none⟩ (.string (mkS q))) (World.size_setCell _ _ _)).2
        have HT2 := Lib.hid (HT.out (w.setCell ⟨rb, 0, none⟩ (.string (mkS q))) (World.size_setCell _ _ _)).1
        go_wp2_with fail
        refine (run_calls rb q false false _ HS1.out.at').mono ?_
        rintro e w2 ⟨rfl, hs2⟩
        obtain ⟨hc0, hf0⟩ : True ∧ True := ⟨trivial, trivial⟩
        have HS2 := Lib.hid (HS1.out.trans hs2)
        have HU3 := Lib.hid (HT3.out.grown hs2.grown hn3)
        have HU2 := Lib.hid (HT2.out.grown hs2.grown hn2)
        obtain ⟨k0, k1, k2, l0, l1, l2⟩ := HU3.out
        simp only [Nat.zero_add] at k1 k2 l1 l2
        clear hc0 hf0
        have hr1 := run_fst_len false q
        generalize run false q = pr at *
        obtain ⟨ru, rq⟩ := pr
        dsimp only at *
        clear hs2
        go_wp2
        go_meet
        refine Lib.hid ⟨⟨2, ru, []⟩, ⟨by simp, by simp; omega, by simp⟩, HU3.out.set ⟨2, ru, []⟩, ((HU2.out.other (Nat.ne_of_lt hz3) _).other (Nat.ne_of_lt hz3) _).other (Nat.ne_of_lt hz3) _, .inr ⟨rq, ((HS2.out.other (by omega) (by omega) _).other (by omega) (by omega) _).other (by omega) (by omega) _, .inl HD.out⟩⟩
      | false =>
        replace HD := Lib.hid (HD.out.trans (if_neg (by rw [c2]; decide)))
        have C2 := Lib.hid c2
        clear c2
        go_wp2_with fail
        refine (has_calls rb s [34] false (by decide) _ HS0.out.at').mono ?_
        rintro e w2 ⟨rfl, rfl⟩
        cases c3 : ([34] : List UInt8).isPrefixOf s with
        | true =>
          replace HD := Lib.hid (HD.out.trans (if_pos c3))
          have hl1 := prefix_len _ _ c3
          have hx := drop1 s
          have hi1 : (1 : Int) ≤ (s.length : Int) := by simp at hl1; omega
          obtain ⟨q, hq⟩ : ∃ q, s.drop 1 = q := ⟨_, rfl⟩
          have hql : q.length ≤ s.length := by rw [← hq]; simp
          rw [hq] at HD hx
          clear c3 hq
          have HS1 := Lib.hid (((HSr.out.set0 (t := q) (by omega)).alloc (.cells #[.int .i64 0, .string (mkS []), .string (mkS [])] 23)).alloc (.cells #[.int .i64 0, .string (mkS []), .string (mkS [])] 23))
          have HT3 := Lib.hid (HT.out (w.setCell ⟨rb, 0, none⟩ (.string (mkS q))) (World.size_setCell _ _ _)).2
          have HT2 := Lib.hid (HT.out (w.setCell ⟨rb, 0, none⟩ (.string (mkS q))) (World.size_setCell _ _ _)).1
          go_wp2_with fail
          refine (literal_calls rb q _ HS1.out.at').mono ?_
          intro e w2 hp
          obtain ⟨hc0, hf0⟩ : True ∧ True := ⟨trivial, trivial⟩
          cases hu2 : literal true q with
          | none =>
            rw [hu2] at hp HD
            obtain ⟨⟨⟨tk, tx, te⟩, rfl, hft⟩, hs2⟩ := hp
            unfold termV
            have HS2 := Lib.hid (HS1.out.trans hs2)
            have HU3 := Lib.hid (HT3.out.grown hs2.grown hn3)
            have HU2 := Lib.hid (HT2.out.grown hs2.grown hn2)
            obtain ⟨k0, k1, k2, l0, l1, l2⟩ := HU3.out
            simp only [Nat.zero_add] at k1 k2 l1 l2
            clear hc0 hf0
            have HFt := Lib.hid hft
            clear hs2 hu2 hft
            go_wp2
            go_meet
            refine Lib.hid ⟨⟨tk, tx, te⟩, HFt.out, HU3.out.set ⟨tk, tx, te⟩, ((HU2.out.other (Nat.ne_of_lt hz3) _).other (Nat.ne_of_lt hz3) _).other (Nat.ne_of_lt hz3) _, .inl ⟨HD.out, ((HS2.out.other (by omega) (by omega) _).other (by omega) (by omega) _).other (by omega) (by omega) _⟩⟩
          | some p2 =>
            obtain ⟨⟨tk, tx, te⟩, y⟩ := p2
            rw [hu2] at hp HD
            obtain ⟨⟨rfl, hft⟩, hs2⟩ := hp
            unfold termV
            have HS2 := Lib.hid (HS1.out.trans hs2)
            have HU3 := Lib.hid (HT3.out.grown hs2.grown hn3)
            have HU2 := Lib.hid (HT2.out.grown hs2.grown hn2)
            obtain ⟨k0, k1, k2, l0, l1, l2⟩ := HU3.out
            simp only [Nat.zero_add] at k1 k2 l1 l2
            clear hc0 hf0
            have HFt := Lib.hid hft
            clear hs2 hu2 hft
            go_wp2
            go_meet
            refine Lib.hid ⟨⟨tk, tx, te⟩, HFt.out, HU3.out.set ⟨tk, tx, te⟩, ((HU2.out.other (Nat.ne_of_lt hz3) _).other (Nat.ne_of_lt hz3) _).other (Nat.ne_of_lt hz3) _, .inr ⟨y, ((HS2.out.other (by omega) (by omega) _).other (by omega) (by omega) _).other (by omega) (by omega) _, .inl HD.out⟩⟩
        | false =>
          replace HD := Lib.hid (HD.out.trans (if_neg (by rw [c3]; decide)))
          clear c3
          go_wp2
          go_meet
          exact Lib.hid ⟨zeroT, ⟨by decide, by decide, by decide⟩, T3.out, T2.out, .inr ⟨s, HS0.out, .inr ⟨HD.out, rfl⟩⟩⟩
  case rest =>
    obtain ⟨⟨tk, tx, te⟩, hft, h3, h2, hcase⟩ := hcut.out
    have hz2 := h3.lt
    have hz1 : w.heap.size < wc.heap.size := by omega
    have HT3 := Lib.hid h3
    have HT2 := Lib.hid h2
    have HFt := Lib.hid hft
    clear hcut hft HR T2 T3 HS0 h2 h3 HT HSr
    rcases hcase with ⟨hd, hs⟩ | ⟨q, hs, hd⟩
    · have HD := Lib.hid (show term true s = none by rw [term, hd])
      have HS := Lib.hid hs
      obtain ⟨a0, a1, b0, b1, _⟩ := hs.at'
      clear hd hs
      obtain ⟨k0, k1, k2, l0, l1, l2⟩ := HT3.out
      obtain ⟨m0, m1, m2, n0, n1, n2⟩ := HT2.out
      simp only [Nat.zero_add] at k1 k2 l1 l2 m1 m2 n1 n2
      dsimp only [zeroT] at *
      go_wp2_with fail
      refine (blanks_calls rb [] true _ HS.out.at').mono ?_
      rintro e w4 ⟨rfl, hs4⟩
      have HS4 := Lib.hid (HS.out.trans hs4)
      have HV3 := Lib.hid (HT3.out.grown hs4.grown hn3)
      have HV2 := Lib.hid (HT2.out.grown hs4.grown hn2)
      obtain ⟨k0, k1, k2, l0, l1, l2⟩ := HV3.out
      obtain ⟨m0, m1, m2, n0, n1, n2⟩ := HV2.out
      simp only [Nat.zero_add] at k1 k2 l1 l2 m1 m2 n1 n2
      dsimp only [zeroT] at *
      clear hs4
      go_wp2
      refine bodyPost_ret (v := termV ⟨tk, tx, te⟩) (by simp [results, Tryz.results33, go_sem, hn2, hn3, m0, m1, m2, termV, mkS_nil]) rfl ?_
      rw [show (term true s) = none from HD.out]
      exact ⟨⟨_, rfl, HFt.out⟩, ((HS4.out.other (by omega) (by omega) _).other (by omega) (by omega) _).other (by omega) (by omega) _⟩
    · have HS := Lib.hid hs
      have hql := hs.at'.len
      have HD : Hid (term true s = if is ⟨tk, tx, te⟩ = true then some (⟨tk, tx, te⟩, q) else none) := Lib.hid (by
        rcases hd with hd | ⟨hd, hi⟩
        · rw [term, hd]
        · rw [term, hd, hi]
          rfl)
      obtain ⟨a0, a1, b0, b1, _⟩ := hs.at'
      have HE1 := Lib.hid (HE.out.grown hs.grown hrb)
      clear hd hs
      obtain ⟨k0, k1, k2, l0, l1, l2⟩ := HT3.out
      obtain ⟨m0, m1, m2, n0, n1, n2⟩ := HT2.out
      simp only [Nat.zero_add] at k1 k2 l1 l2 m1 m2 n1 n2
      dsimp only [zeroT] at *
      go_wp2_with fail
      refine (is4_calls ⟨tk, tx, te⟩ HFt.out _ HE1.out).mono ?_
      rintro e w3 ⟨rfl, hb3⟩
      have HS3 := Lib.hid (HS.out.below hb3)
      have HU3 := Lib.hid (HT3.out.below hb3)
      have HU2 := Lib.hid (HT2.out.below hb3)
      clear hb3 k0 k1 k2 l0 l1 l2 m0 m1 m2 n0 n1 n2 a0 a1 b0 b1
      obtain ⟨a0, a1, b0, b1, _⟩ := HS3.out.at'
      obtain ⟨k0, k1, k2, l0, l1, l2⟩ := HU3.out
      obtain ⟨m0, m1, m2, n0, n1, n2⟩ := HU2.out
      simp only [Nat.zero_add] at k1 k2 l1 l2 m1 m2 n1 n2
      dsimp only [zeroT] at *
      cases hi : is ⟨tk, tx, te⟩ with
      | true =>
        have HD1 := Lib.hid (HD.out.trans (if_pos hi))
        clear hi HD
        clear k0 k1 k2 l0 l1 l2 m0 m1 m2 n0 n1 n2
        go_wp2_with fail
        refine (blanks_calls rb q false _ HS3.out.at').mono ?_
        rintro e w4 ⟨rfl, hs4⟩
        have HS4 := Lib.hid (HS3.out.trans hs4)
        have HV3 := Lib.hid (HU3.out.grown hs4.grown hn3)
        have HV2 := Lib.hid (HU2.out.grown hs4.grown hn2)
        obtain ⟨k0, k1, k2, l0, l1, l2⟩ := HV3.out
        obtain ⟨m0, m1, m2, n0, n1, n2⟩ := HV2.out
        simp only [Nat.zero_add] at k1 k2 l1 l2 m1 m2 n1 n2
        dsimp only [zeroT] at *
        clear hs4
        go_wp2
        refine bodyPost_ret (v := termV ⟨tk, tx, te⟩) (by simp [results, Tryz.results33, go_sem, hn2, hn3, m0, m1, m2, termV, mkS_nil]) rfl ?_
        rw [show (term true s) = some (⟨tk, tx, te⟩, q) from HD1.out]
        exact ⟨⟨rfl, HFt.out⟩, ((HS4.out.other (by omega) (by omega) _).other (by omega) (by omega) _).other (by omega) (by omega) _⟩
      | false =>
        have HD1 := Lib.hid (HD.out.trans (if_neg (by rw [hi]; decide)))
        clear hi HD
        go_wp2_with fail
        refine (fail_calls rb q false _ HS3.out.at').mono ?_
        rintro e w5 ⟨rfl, hs5⟩
        have HS5 := Lib.hid (HS3.out.trans hs5)
        have HX3 := Lib.hid (HU3.out.grown hs5.grown hn3)
        have HX2 := Lib.hid (HU2.out.grown hs5.grown hn2)
        clear hs5 k0 k1 k2 l0 l1 l2 m0 m1 m2 n0 n1 n2
        go_wp2_with fail
        refine (blanks_calls rb [] true _ HS5.out.at').mono ?_
        rintro e w4 ⟨rfl, hs4⟩
        have HS4 := Lib.hid (HS5.out.trans hs4)
        have HV3 := Lib.hid (HX3.out.grown hs4.grown hn3)
        have HV2 := Lib.hid (HX2.out.grown hs4.grown hn2)
        obtain ⟨k0, k1, k2, l0, l1, l2⟩ := HV3.out
        obtain ⟨m0, m1, m2, n0, n1, n2⟩ := HV2.out
        simp only [Nat.zero_add] at k1 k2 l1 l2 m1 m2 n1 n2
        dsimp only [zeroT] at *
        clear hs4
        go_wp2
        refine bodyPost_ret (v := termV ⟨tk, tx, te⟩) (by simp [results, Tryz.results33, go_sem, hn2, hn3, m0, m1, m2, termV, mkS_nil]) rfl ?_
        rw [show (term true s) = none from HD1.out]
        exact ⟨⟨_, rfl, HFt.out⟩, ((HS4.out.other (by omega) (by omega) _).other (by omega) (by omega) _).other (by omega) (by omega) _⟩
set_option maxRecDepth 100000 in
set_option maxHeartbeats 1600000 in
theorem term_bad_calls (rb : Nat) (w : World) (h : At w rb [] true) :
    Calls Tryz.prog 33 #[.pointer (some ⟨rb, 0, none⟩)] w fun e w' => TermPost w rb none e w' := by
  have hlt := h.lt
  have HT := Lib.hid (two_zero (w := w) w rfl)
  have HS0 := Lib.hid (((Step.refl h).alloc (.cells #[.int .i64 0, .string (mkS []), .string (mkS [])] 23)).alloc (.cells #[.int .i64 0, .string (mkS []), .string (mkS [])] 23))
  have hn2 : ¬ w.heap.size = rb := by omega
  have hn3 : ¬ w.heap.size + 1 = rb := by omega
  obtain ⟨a0, a1, b0, b1, _⟩ := h
  go_enter Tryz.func33, Tryz.ntmps33
  go_wp2_with fail
  refine (has_calls rb [] [60] true (by decide) _ HS0.out.at').mono ?_
  rintro e w2 ⟨rfl, rfl⟩
  rw [show ([60] : List UInt8).isPrefixOf [] = false from rfl]
  go_wp2_with fail
  refine (has_calls rb [] [95, 58] true (by decide) _ HS0.out.at').mono ?_
  rintro e w2 ⟨rfl, rfl⟩
  rw [show ([95, 58] : List UInt8).isPrefixOf [] = false from rfl]
  go_wp2_with fail
  refine (has_calls rb [] [34] true (by decide) _ HS0.out.at').mono ?_
  rintro e w2 ⟨rfl, rfl⟩
  rw [show ([34] : List UInt8).isPrefixOf [] = false from rfl]
  go_wp2_with fail
  refine (blanks_calls rb [] true _ HS0.out.at').mono ?_
  rintro e w4 ⟨rfl, hs4⟩
  have HS4 := Lib.hid (HS0.out.trans hs4)
  obtain ⟨k0, k1, k2, l0, l1, l2⟩ := HT.out.2.grown hs4.grown hn3
  obtain ⟨m0, m1, m2, n0, n1, n2⟩ := HT.out.1.grown hs4.grown hn2
  simp only [Nat.zero_add] at k1 k2 l1 l2 m1 m2 n1 n2
  dsimp only [zeroT] at *
  clear hs4
  go_wp2
  refine bodyPost_ret (v := termV zeroT) (by simp [results, Tryz.results33, go_sem, hn2, hn3, m0, m1, m2, termV, mkS_nil, zeroT]) rfl ?_
  exact ⟨⟨zeroT, rfl, by decide, by decide, by decide⟩, ((HS4.out.other (by omega) (by omega) _).other (by omega) (by omega) _).other (by omega) (by omega) _⟩
end Go.Proofs.YtmcoloapiiakbaaGreatDoor.Ref5
