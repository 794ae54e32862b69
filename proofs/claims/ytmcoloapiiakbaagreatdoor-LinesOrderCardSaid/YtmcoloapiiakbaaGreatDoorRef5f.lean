/-
  What the reference of lines answers: terms in a line.
-/
import Derived.Test.YtmcoloapiiakbaaGreatDoorRef5e
set_option linter.unusedVariables false
set_option linter.unusedSimpArgs false
namespace Go.Proofs.YtmcoloapiiakbaaGreatDoor.Ref5
open Go.RowKit Go.Lib Go.Proofs.YtmcoloapiiakbaaGreatDoor.B Go.Proofs.YtmcoloapiiakbaaGreatDoor.Rd Go.Proofs.YtmcoloapiiakbaaGreatDoor.Utf Go.Proofs.YtmcoloapiiakbaaGreatDoor.TermPure Go.Proofs.YtmcoloapiiakbaaGreatDoor.LinesPure Go.Proofs.YtmcoloapiiakbaaGreatDoor.Tx Go.Proofs.YtmcoloapiiakbaaGreatDoor.Env

/-- What a reader tells of a term, or that it errs. -/
def TermPost (w : World) (rb : Nat) (r : Option (Term × List UInt8)) (e : Ending) (w' : World) : Prop := match r with
  | none => (∃ t : Term, e = .returned (termV t) ∧ Fits t) ∧ Step w w' rb [] true
  | some (t, q) => (e = .returned (termV t) ∧ Fits t) ∧ Step w w' rb q false
theorem up_len (stop : UInt8) (lit nl : Bool) : ∀ (n : Nat) (l : List UInt8), l.length ≤ n → ∀ o r, up stop lit nl l = some (o, r) → o.length + r.length < l.length
  | n, [], h, o, r, hu => by rw [up_nil] at hu; cases hu
  | 0, b :: l, h, o, r, hu => by simp at h
  | n + 1, b :: l, h, o, r, hu => by
    simp at h
    by_cases h1 : b = stop
    · subst h1
      rw [up_stop] at hu
      cases hu
      simp
    · by_cases h2 : b = 92
      · cases he : esc lit l with
        | none => rw [up_esc_none stop lit nl b l h1 h2 he] at hu; cases hu
        | some p =>
          obtain ⟨o1, r1⟩ := p
          rw [up_esc stop lit nl b l o1 r1 h1 h2 he] at hu
          have hl := esc_len2 lit l o1 r1 he
          cases hv : up stop lit nl r1 with
          | none => rw [hv] at hu; cases hu
          | some q =>
            obtain ⟨o2, r2⟩ := q
            rw [hv] at hu
            cases hu
            have := up_len stop lit nl n r1 (by omega) o2 r2 hv
            simp
            omega
      · by_cases h3 : nl = true ∧ (b = 10 ∨ b = 13)
        · rw [up_line stop lit nl b l h1 h2 h3] at hu; cases hu
        · rw [up_other stop lit nl b l h1 h2 h3] at hu
          cases hv : up stop lit nl l with
          | none => rw [hv] at hu; cases hu
          | some q =>
            obtain ⟨o2, r2⟩ := q
            rw [hv] at hu
            cases hu
            have := up_len stop lit nl n l (by omega) o2 r2 hv
            simp
            omega
theorem run_fst_len (d : Bool) (l : List UInt8) : (run d l).1.length ≤ l.length := by
  unfold run
  exact List.Sublist.length_le (List.takeWhile_sublist _)
theorem run_snd_len (d : Bool) (l : List UInt8) : (run d l).2.length ≤ l.length := by
  unfold run
  exact List.Sublist.length_le (List.dropWhile_sublist _)
theorem low_len (l : List UInt8) : (toLowerA l).length = l.length := by simp [toLowerA]
theorem caret3 (r : List UInt8) : ([94, 94, 60] : List UInt8).isPrefixOf r = (([94, 94] : List UInt8).isPrefixOf r && ([60] : List UInt8).isPrefixOf (r.drop 2)) := by
  rcases r with _ | ⟨a, _ | ⟨b, r⟩⟩
  · rfl
  · show (94 == a && false) = ((94 == a && false) && _)
    simp
  · show (94 == a && (94 == b && ([60] : List UInt8).isPrefixOf r)) = ((94 == a && (94 == b && true)) && ([60] : List UInt8).isPrefixOf r)
    rw [Bool.and_true, Bool.and_assoc]
set_option maxRecDepth 100000 in
set_option maxHeartbeats 3200000 in
theorem literal_calls (rb : Nat) (s : List UInt8) (w : World) (h : At w rb s false) :
    Calls Tryz.prog 61 #[.pointer (some ⟨rb, 0, none⟩)] w fun e w' => TermPost w rb (literal true s) e w' := by
  have hlt := h.lt
  have hlen := h.len
  have HA0 := Lib.hid h
  have HB0 := Lib.hid (bel_alloc (Below.refl w.heap.size w) (.cells #[.int .i64 0, .string (mkS []), .string (mkS [])] 23))
  have HA := Lib.hid (h.kept HB0.out)
  have hne0 : ¬ w.heap.size = rb := by omega
  clear h
  have HL : Hid (literal true s = match up 34 true true s with
  | none => none
  | some (t, r) =>
    if [64].isPrefixOf r = true then some (⟨4, t, toLowerA (run true (r.drop 1)).1⟩, (run true (r.drop 1)).2)
    else if [94, 94].isPrefixOf r = true then
      if [60].isPrefixOf (r.drop 2) = true then (up 62 false true (r.drop 3)).map fun x => (⟨5, t, x.1⟩, x.2)
      else if true = true then some (⟨3, t, []⟩, r) else none
    else some (⟨3, t, []⟩, r)) := Lib.hid rfl
  go_enter Tryz.func61, Tryz.ntmps61
  go_wp2_with fail
  refine (upTo_calls rb s false true 34 _ HA.out).mono ?_
  intro e w1 hp
  have UL := up_len 34 true true s.length s (Nat.le_refl _)
  cases hu : up 34 true true s with
  | none =>
    rw [hu] at hp HL
    obtain ⟨rfl, hs1⟩ := hp
    obtain ⟨hc1, hf1⟩ := gcell hs1.grown
    have hz1 := hs1.grown.size
    have hz1' : w.heap.size < w1.heap.size := by simp at hz1; omega
    have HS1 := Lib.hid (hs1.from HB0.out)
    have hne1 : ¬ w1.heap.size = rb := by omega
    have hne2 : ¬ w.heap.size = w1.heap.size := by omega
    have hne3 : ¬ w1.heap.size = w.heap.size := by omega
    have HA1 := Lib.hid (fun W (hb : Below w1.heap.size w1 W) => hs1.at'.kept hb)
    clear hu hs1 hz1 UL
    go_wp2_with fail
    refine (has_calls rb [] [64] true (by decide) _ (HA1.out _ (bel_alloc (Below.refl _ _) _))).mono ?_
    rintro e w2 ⟨rfl, rfl⟩
    rw [show ([64] : List UInt8).isPrefixOf [] = false from rfl]
    go_wp2_with fail
    refine (has_calls rb [] [94, 94, 60] true (by decide) _ (HA1.out _ (bel_alloc (Below.refl _ _) _))).mono ?_
    rintro e w2 ⟨rfl, rfl⟩
    rw [show ([94, 94, 60] : List UInt8).isPrefixOf [] = false from rfl]
    go_wp2
    refine bodyPost_ret (v := termV ⟨3, [], []⟩) (by simp [results, Tryz.results61, go_sem, hne0, hne2, hne3, hc1, hz1', termV, mkS_nil]) rfl ?_
    rw [HL.out]
    refine ⟨⟨_, rfl, by simp, by simp, by simp⟩, ?_⟩
    clear hc1 hf1
    repeat first | exact HS1.out | refine Step.alloc ?_ _ | refine Step.other ?_ (by omega) (by omega) _
  | some p =>
    obtain ⟨t, r⟩ := p
    have hlen2 := UL t r hu
    rw [hu] at hp HL
    obtain ⟨rfl, hs1⟩ := hp
    dsimp only at HL
    obtain ⟨hc1, hf1⟩ := gcell hs1.grown
    have hz1 := hs1.grown.size
    have hz1' : w.heap.size < w1.heap.size := by simp at hz1; omega
    have HS1 := Lib.hid (hs1.from HB0.out)
    have hne1 : ¬ w1.heap.size = rb := by omega
    have hne2 : ¬ w.heap.size = w1.heap.size := by omega
    have hne3 : ¬ w1.heap.size = w.heap.size := by omega
    have hr1 : rb < w1.heap.size := by omega
    have HA1 := Lib.hid (fun W (hb : Below w1.heap.size w1 W) => hs1.at'.kept hb)
    obtain ⟨a0, a1, b0, b1, _⟩ := hs1.at'
    have zr := mkS_size r
    have hrl : r.length ≤ 70368744177664 := by omega
    clear hu hs1 hz1 UL HA HA0
    go_wp2_with fail
    refine (has_calls rb r [64] false (by decide) _ (HA1.out _ (bel_alloc (Below.refl _ _) _))).mono ?_
    rintro e w2 ⟨rfl, rfl⟩
    cases c1 : ([64] : List UInt8).isPrefixOf r with
    | true =>
      have hl1 := prefix_len _ _ c1
      have HD := Lib.hid (HL.out.trans (if_pos c1))
      have hx := drop1 r
      have hi1 : (1 : Int) ≤ (r.length : Int) := by simp at hl1; omega
      obtain ⟨q, hq⟩ : ∃ q, r.drop 1 = q := ⟨_, rfl⟩
      have hql : q.length ≤ r.length := by rw [← hq]; simp
      rw [hq] at HD hx
      clear c1 HL hq
      have HS2 := Lib.hid ((HS1.out.set0 (t := q) (by omega)).alloc (.cells #[.int .i64 3, .string (mkS t), .string (mkS [])] 23))
      go_wp2_with fail
      refine (run_calls rb q false true _ HS2.out.at').mono ?_
      rintro e w2 ⟨rfl, hs2⟩
      obtain ⟨hc2, hf2⟩ := gcell hs2.grown
      have hz2 : w1.heap.size < w2.heap.size := by have := hs2.grown.size; simp at this; omega
      have hz2' : w.heap.size < w2.heap.size := by omega
      have hrl := run_fst_len true q
      have hrl2 := run_snd_len true q
      generalize run true q = pr at *
      obtain ⟨ru, rq⟩ := pr
      dsimp only at *
      have HS3 := Lib.hid (HS2.out.trans hs2)
      clear hs2
      go_wp2_with fail
      refine (small_calls ru (by omega) _).mono ?_
      rintro e w3 ⟨rfl, hb3⟩
      obtain ⟨hc3, hf3⟩ := bcell hb3
      have hz3 : w1.heap.size < w3.heap.size := by have := hb3.size; omega
      have hz3' : w.heap.size < w3.heap.size := by omega
      have HS4 := Lib.hid (HS3.out.below hb3)
      have hll := low_len ru
      generalize toLowerA ru = lo at *
      clear hb3
      go_wp2
      have q : ∀ o, w3.cell? ⟨w.heap.size, o, none⟩ = w1.cell? ⟨w.heap.size, o, none⟩ := fun o => by
        rw [hc3 _ _ hz2', hc2 _ _ (by simp; omega) hne0]
        simp [go_sem, hne0, hne1, hne2, hne3, hz1']
      have k0 : w3.cell? ⟨w.heap.size, 0, none⟩ = some (.int .i64 0) := by rw [q]; simp [go_sem, hc1, hne0]
      have k1 : w3.cell? ⟨w.heap.size, 1, none⟩ = some (.string (mkS [])) := by rw [q]; simp [go_sem, hc1, hne0]
      have k2 : w3.cell? ⟨w.heap.size, 2, none⟩ = some (.string (mkS [])) := by rw [q]; simp [go_sem, hc1, hne0]
      refine bodyPost_ret (v := termV ⟨4, t, lo⟩) (by simp [results, Tryz.results61, go_sem, hne0, hne1, hne2, hne3, hz1', hz2, hz2', hz3, hz3', k0, k1, k2, termV, mkS_nil]) rfl ?_
      rw [HD.out]
      refine ⟨⟨rfl, by simp, by simp; omega, by simp; omega⟩, ?_⟩
      clear hc1 hf1 hc2 hf2 hc3 hf3
      repeat first | exact HS4.out | refine Step.alloc ?_ _ | refine Step.other ?_ (by omega) (by omega) _
    | false =>
      have HD := Lib.hid (HL.out.trans (if_neg (by rw [c1]; decide)))
      have K3 := Lib.hid (caret3 r)
      clear c1 HL
      go_wp2_with fail
      refine (has_calls rb r [94, 94, 60] false (by decide) _ (HA1.out _ (bel_alloc (Below.refl _ _) _))).mono ?_
      rintro e w2 ⟨rfl, rfl⟩
      cases c3 : ([94, 94, 60] : List UInt8).isPrefixOf r with
      | true =>
        have hl1 := prefix_len _ _ c3
        have hk := K3.out.symm.trans c3
        rw [Bool.and_eq_true] at hk
        have HD2 := Lib.hid (HD.out.trans ((if_pos hk.1).trans (if_pos hk.2)))
        have hx := drop3 r
        have hi1 : (3 : Int) ≤ (r.length : Int) := by simp at hl1; omega
        obtain ⟨q, hq⟩ : ∃ q, r.drop 3 = q := ⟨_, rfl⟩
        have hql : q.length ≤ r.length := by rw [← hq]; simp
        rw [hq] at HD2 hx
        clear c3 HD hq hk K3
        have HS2 := Lib.hid ((HS1.out.set0 (t := q) (by omega)).alloc (.cells #[.int .i64 3, .string (mkS t), .string (mkS [])] 23))
        go_wp2_with fail
        refine (upTo_calls rb q false false 62 _ HS2.out.at').mono ?_
        intro e w2 hp
        have UL2 := up_len 62 false true q.length q (Nat.le_refl _)
        cases hu2 : up 62 false true q with
        | none =>
          rw [hu2] at hp HD2
          obtain ⟨rfl, hs2⟩ := hp
          obtain ⟨hc2, hf2⟩ := gcell hs2.grown
          have hz2 : w1.heap.size < w2.heap.size := by have := hs2.grown.size; simp at this; omega
          have hz2' : w.heap.size < w2.heap.size := by omega
          have HS3 := Lib.hid (HS2.out.trans hs2)
          clear hs2 hu2 UL2
          go_wp2
          have q : ∀ o, w2.cell? ⟨w.heap.size, o, none⟩ = w1.cell? ⟨w.heap.size, o, none⟩ := fun o => by
            rw [hc2 _ _ (by simp; omega) hne0]
            simp [go_sem, hne0, hne1, hne2, hne3, hz1']
          have k0 : w2.cell? ⟨w.heap.size, 0, none⟩ = some (.int .i64 0) := by rw [q]; simp [go_sem, hc1, hne0]
          have k1 : w2.cell? ⟨w.heap.size, 1, none⟩ = some (.string (mkS [])) := by rw [q]; simp [go_sem, hc1, hne0]
          have k2 : w2.cell? ⟨w.heap.size, 2, none⟩ = some (.string (mkS [])) := by rw [q]; simp [go_sem, hc1, hne0]
          refine bodyPost_ret (v := termV ⟨5, t, []⟩) (by simp [results, Tryz.results61, go_sem, hne0, hne1, hne2, hne3, hz1', hz2, hz2', k0, k1, k2, termV, mkS_nil]) rfl ?_
          rw [HD2.out]
          refine ⟨⟨_, rfl, by simp, by simp; omega, by simp⟩, ?_⟩
          clear hc1 hf1 hc2 hf2
          repeat first | exact HS3.out | refine Step.alloc ?_ _ | refine Step.other ?_ (by omega) (by omega) _
        | some p2 =>
          obtain ⟨x, y⟩ := p2
          have hxy := UL2 x y hu2
          rw [hu2] at hp HD2
          obtain ⟨rfl, hs2⟩ := hp
          obtain ⟨hc2, hf2⟩ := gcell hs2.grown
          have hz2 : w1.heap.size < w2.heap.size := by have := hs2.grown.size; simp at this; omega
          have hz2' : w.heap.size < w2.heap.size := by omega
          have HS3 := Lib.hid (HS2.out.trans hs2)
          clear hs2 hu2 UL2
          go_wp2
          have q : ∀ o, w2.cell? ⟨w.heap.size, o, none⟩ = w1.cell? ⟨w.heap.size, o, none⟩ := fun o => by
            rw [hc2 _ _ (by simp; omega) hne0]
            simp [go_sem, hne0, hne1, hne2, hne3, hz1']
          have k0 : w2.cell? ⟨w.heap.size, 0, none⟩ = some (.int .i64 0) := by rw [q]; simp [go_sem, hc1, hne0]
          have k1 : w2.cell? ⟨w.heap.size, 1, none⟩ = some (.string (mkS [])) := by rw [q]; simp [go_sem, hc1, hne0]
          have k2 : w2.cell? ⟨w.heap.size, 2, none⟩ = some (.string (mkS [])) := by rw [q]; simp [go_sem, hc1, hne0]
          refine bodyPost_ret (v := termV ⟨5, t, x⟩) (by simp [results, Tryz.results61, go_sem, hne0, hne1, hne2, hne3, hz1', hz2, hz2', k0, k1, k2, termV, mkS_nil]) rfl ?_
          rw [HD2.out]
          refine ⟨⟨rfl, by simp, by simp; omega, by simp; omega⟩, ?_⟩
          clear hc1 hf1 hc2 hf2
          repeat first | exact HS3.out | refine Step.alloc ?_ _ | refine Step.other ?_ (by omega) (by omega) _
      | false =>
        have HD2 : Hid (literal true s = some (⟨3, t, []⟩, r)) := Lib.hid (by
          rw [HD.out]
          by_cases h1 : ([94, 94] : List UInt8).isPrefixOf r = true
          · rw [if_pos h1]
            have h2 : ([60] : List UInt8).isPrefixOf (r.drop 2) = false := by
              have := K3.out.symm.trans c3
              rw [h1, Bool.true_and] at this
              exact this
            rw [if_neg (by rw [h2]; decide), if_pos trivial]
          · rw [if_neg h1])
        clear c3 HD K3
        go_wp2
        refine bodyPost_ret (v := termV ⟨3, t, []⟩) (by simp [results, Tryz.results61, go_sem, hne0, hne1, hne2, hne3, hc1, hz1', termV, mkS_nil]) rfl ?_
        rw [HD2.out]
        refine ⟨⟨rfl, by simp, by simp; omega, by simp⟩, ?_⟩
        clear hc1 hf1
        repeat first | exact HS1.out | refine Step.alloc ?_ _ | refine Step.other ?_ (by omega) (by omega) _
end Go.Proofs.YtmcoloapiiakbaaGreatDoor.Ref5
