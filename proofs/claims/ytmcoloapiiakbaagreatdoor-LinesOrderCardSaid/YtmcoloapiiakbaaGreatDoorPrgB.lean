/-
  What the program's reader of lines answers: in whatever state.
-/
import Derived.Test.YtmcoloapiiakbaaGreatDoorPrgA
set_option linter.unusedVariables false
set_option linter.unusedSimpArgs false
namespace Go.Proofs.YtmcoloapiiakbaaGreatDoor.Prg
open Go.RowKit Go.Lib Go.Proofs.YtmcoloapiiakbaaGreatDoor.B Go.Proofs.YtmcoloapiiakbaaGreatDoor.Rd Go.Proofs.YtmcoloapiiakbaaGreatDoor.Utf Go.Proofs.YtmcoloapiiakbaaGreatDoor.TermPure Go.Proofs.YtmcoloapiiakbaaGreatDoor.LinesPure Go.Proofs.YtmcoloapiiakbaaGreatDoor.Tx Go.Proofs.YtmcoloapiiakbaaGreatDoor.Env Go.Proofs.YtmcoloapiiakbaaGreatDoor.Bld Go.Proofs.YtmcoloapiiakbaaGreatDoor.Tc
open Go.Proofs.YtmcoloapiiakbaaGreatDoor.Ref5 (termV Fits tripleV FitsT isTriple_eq two_zero up_len run_fst_len run_snd_len low_len zeroTr T9 oneV FitsO one_by lineEnd)

set_option maxRecDepth 100000 in
set_option maxHeartbeats 1600000 in
theorem term_bad_calls (rb : Nat) (l : List UInt8) (w : World) (h : At w rb l true) :
    Calls Tryz.prog 29 #[.pointer (some ⟨rb, 0, none⟩)] w fun e w' => (∃ t : Term, e = .returned (termV t)) ∧ Step w w' rb l true := by
  have hlt := h.lt
  have HT := Lib.hid (two_zero (w := w) w rfl)
  have HS0 := Lib.hid (((Step.refl h).alloc (.cells #[.int .i64 0, .string (mkS []), .string (mkS [])] 23)).alloc (.cells #[.int .i64 0, .string (mkS []), .string (mkS [])] 23))
  have hn2 : ¬ w.heap.size = rb := by omega
  have hn3 : ¬ w.heap.size + 1 = rb := by omega
  obtain ⟨a0, a1, b0, b1, _⟩ := h
  go_enter Tryz.func29, Tryz.ntmps29
  go_wp2_with fail
  refine (next_end_calls rb l true (.inl rfl) _ HS0.out.at').mono ?_
  rintro e w2 ⟨rfl, rfl⟩
  go_wp2_with fail
  refine (is_bad_calls rb l [95, 58] _ HS0.out.at').mono ?_
  rintro e w2 ⟨rfl, rfl⟩
  go_wp2_with fail
  refine (is_bad_calls rb l [34] _ HS0.out.at').mono ?_
  rintro e w2 ⟨rfl, rfl⟩
  go_wp2
  refine bodyPost_ret (v := termV zeroT) (by simp [results, Tryz.results29, go_sem, hn2, hn3, termV, mkS_nil, zeroT]) rfl ?_
  refine ⟨⟨zeroT, rfl⟩, ?_⟩
  repeat first | exact HS0.out.set1 true | exact HS0.out | exact ((Step.refl ⟨a0, a1, b0, b1, by assumption⟩).set1 true) | refine Step.alloc ?_ _ | refine Step.other ?_ (by omega) (by omega) _
/-- A reader's state, seen from a world. -/
def PSt (w w' : World) (rb : Nat) (st : Option (List UInt8)) : Prop := match st with
  | none => ∃ s, Step w w' rb s true
  | some l => Step w w' rb l false ∧ validD l = true ∧ l.length ≤ 1000000
theorem PSt.grown {w w' : World} {rb : Nat} {st : Option (List UInt8)} (h : PSt w w' rb st) : w.grownBy w' (some rb) := by
  cases st with
  | none => obtain ⟨s, hs⟩ := h; exact hs.grown
  | some l => exact h.1.grown
theorem PSt.trans {a b c : World} {rb : Nat} {s t : Option (List UInt8)} (h : PSt a b rb s) (k : PSt b c rb t) : PSt a c rb t := by
  cases t with
  | none => obtain ⟨x, hx⟩ := k; exact ⟨x, ⟨h.grown.trans hx.grown, hx.at'⟩⟩
  | some l => exact ⟨⟨h.grown.trans k.1.grown, k.1.at'⟩, k.2⟩
theorem PSt.alloc {a b : World} {rb : Nat} {s : Option (List UInt8)} (h : PSt a b rb s) (o : Obj) : PSt a (b.alloc o) rb s := by
  cases s with
  | none => obtain ⟨x, hx⟩ := h; exact ⟨x, hx.alloc o⟩
  | some l => exact ⟨h.1.alloc o, h.2⟩
theorem PSt.other {a b : World} {rb g j : Nat} {s : Option (List UInt8)} (h : PSt a b rb s) (hg : a.heap.size ≤ g) (hne : g ≠ rb) (u : Value) : PSt a (b.setCell ⟨g, j, none⟩ u) rb s := by
  cases s with
  | none => obtain ⟨x, hx⟩ := h; exact ⟨x, hx.other hg hne u⟩
  | some l => exact ⟨h.1.other hg hne u, h.2⟩
/-- Behind a term, ahead of blanks. -/
def PNext (st : Option (List UInt8)) (t : Term) (st' : Option (List UInt8)) : Prop := match st with
  | none => st' = none
  | some s => match term false s with
    | none => st' = none
    | some (t0, q) => t = t0 ∧ st' = some q
theorem PNext.next {st st' : Option (List UInt8)} {t : Term} (h : PNext st t st') : Ref5.Next false st t (st'.map blanks) := by
  cases st with
  | none => unfold PNext at h; subst h; rfl
  | some s =>
    unfold PNext at h
    unfold Ref5.Next
    dsimp only at h ⊢
    cases ht : term false s with
    | none => rw [ht] at h; dsimp only at h; subst h; rfl
    | some p =>
      obtain ⟨t0, q⟩ := p
      rw [ht] at h
      obtain ⟨rfl, rfl⟩ := h
      exact ⟨rfl, rfl⟩
theorem raw_len (l : List UInt8) (t : Term) (q : List UInt8) (h : rawTerm false l = some (t, q)) : q.length ≤ l.length := by
  unfold rawTerm at h
  split at h
  · cases hu : up 62 false false (l.drop 1) with
    | none => rw [hu] at h; cases h
    | some p =>
      obtain ⟨o, r⟩ := p
      rw [hu] at h
      cases h
      have := up_len 62 false false _ (l.drop 1) (Nat.le_refl _) o _ hu
      dsimp only at this ⊢
      rw [List.length_drop] at this
      omega
  · split at h
    · cases h
      have := run_snd_len false (l.drop 2)
      rw [List.length_drop] at this
      omega
    · split at h
      · have : q.length ≤ (l.drop 1).length := by
          rw [literal] at h
          cases hu : up 34 true true (l.drop 1) with
          | none => rw [hu] at h; cases h
          | some p =>
            obtain ⟨x, r⟩ := p
            have h1 := up_len 34 true true _ (l.drop 1) (Nat.le_refl _) x r hu
            rw [hu] at h
            dsimp only at h
            split at h
            · cases h
              have := run_snd_len true (r.drop 1)
              rw [List.length_drop] at this
              omega
            · split at h
              · split at h
                · cases hv : up 62 false false (r.drop 3) with
                  | none => rw [hv] at h; cases h
                  | some p2 =>
                    obtain ⟨e, y⟩ := p2
                    have h2 := up_len 62 false false _ (r.drop 3) (Nat.le_refl _) e y hv
                    rw [hv] at h
                    cases h
                    rw [List.length_drop] at h2
                    dsimp only
                    omega
                · cases h
              · cases h
                omega
        rw [List.length_drop] at this
        omega
      · cases h
theorem term_len (l : List UInt8) (t : Term) (q : List UInt8) (h : term false l = some (t, q)) : q.length ≤ l.length := by
  rw [term] at h
  cases hr : rawTerm false l with
  | none => rw [hr] at h; cases h
  | some p =>
    obtain ⟨t', q'⟩ := p
    rw [hr] at h
    dsimp only at h
    split at h
    · cases h; exact raw_len l t q hr
    · cases h
/-- A term's parts are small. -/
def FitsX (t : Term) : Prop := Fits t ∧ t.extra.length ≤ 1000000
theorem raw_extra (l : List UInt8) (t : Term) (q : List UInt8) (h : rawTerm false l = some (t, q)) : t.extra.length ≤ l.length := by
  unfold rawTerm at h
  split at h
  · cases hu : up 62 false false (l.drop 1) with
    | none => rw [hu] at h; cases h
    | some p =>
      rw [hu] at h
      cases h
      simp
  · split at h
    · cases h
      simp
    · split at h
      · have := literal_extra (l.drop 1) t q h
        rw [List.length_drop] at this
        omega
      · cases h
theorem term_extra (l : List UInt8) (t : Term) (q : List UInt8) (h : term false l = some (t, q)) : t.extra.length ≤ l.length := by
  rw [term] at h
  cases hr : rawTerm false l with
  | none => rw [hr] at h; cases h
  | some p =>
    obtain ⟨t', q'⟩ := p
    rw [hr] at h
    dsimp only at h
    split at h
    · cases h; exact raw_extra l t q hr
    · cases h
theorem term_any_calls (w0 : World) (rb : Nat) (st : Option (List UInt8)) (w : World) (he : Env w) (hrb : lowB ≤ rb) (h : PSt w0 w rb st) :
    Calls Tryz.prog 29 #[.pointer (some ⟨rb, 0, none⟩)] w fun e w' => ∃ t st', (e = .returned (termV t) ∧ (st' ≠ none → FitsX t)) ∧ (PSt w0 w' rb st' ∧ w.grownBy w' (some rb)) ∧ PNext st t st' := by
  cases st with
  | none =>
    obtain ⟨s, hs⟩ := h
    refine (term_bad_calls rb s w hs.at').mono ?_
    rintro e w' ⟨⟨t, h1⟩, h3⟩
    exact ⟨t, none, ⟨h1, fun h => absurd rfl h⟩, ⟨⟨s, hs.trans h3⟩, h3.grown⟩, rfl⟩
  | some l =>
    obtain ⟨hs, hv, hl⟩ := h
    refine (term_calls rb l hl hv w he hrb hs.at').mono ?_
    intro e w' hp
    unfold PNext
    dsimp only
    cases ht : term false l with
    | none =>
      rw [ht] at hp
      obtain ⟨⟨t, h1⟩, s, h3⟩ := hp
      exact ⟨t, none, ⟨h1, fun h => absurd rfl h⟩, ⟨⟨s, hs.trans h3⟩, h3.grown⟩, rfl⟩
    | some p =>
      obtain ⟨t, q⟩ := p
      rw [ht] at hp
      obtain ⟨⟨h1, h2⟩, h3, h4⟩ := hp
      exact ⟨t, some q, ⟨h1, fun _ => ⟨h2, Nat.le_trans (term_extra l t q ht) hl⟩⟩, ⟨⟨hs.trans h3, h4, Nat.le_trans (term_len l t q ht) hl⟩, h3.grown⟩, rfl, rfl⟩
theorem blanks_any_calls (w0 : World) (rb : Nat) (st : Option (List UInt8)) (w : World) (h : PSt w0 w rb st) :
    Calls Tryz.prog 27 #[.pointer (some ⟨rb, 0, none⟩)] w fun e w' => e = .returned (.tuple #[]) ∧ PSt w0 w' rb (st.map blanks) ∧ w.grownBy w' (some rb) := by
  cases st with
  | none =>
    obtain ⟨s, hs⟩ := h
    refine (pblanks_bad_calls rb s w hs.at').mono ?_
    rintro e w' ⟨h1, rfl⟩
    exact ⟨h1, ⟨s, hs⟩, World.grownBy.refl _ _⟩
  | some l =>
    obtain ⟨hs, hv, hl⟩ := h
    refine (pblanks_calls rb l w hs.at').mono ?_
    rintro e w' ⟨h1, h2⟩
    exact ⟨h1, ⟨hs.trans h2, blanks_valid l hv, Nat.le_trans (List.Sublist.length_le (List.dropWhile_sublist _)) hl⟩, h2.grown⟩
theorem over_any_calls (w0 : World) (rb : Nat) (st : Option (List UInt8)) (w : World) (h : PSt w0 w rb st) :
    Calls Tryz.prog 28 #[.pointer (some ⟨rb, 0, none⟩)] w fun e w' => e = .returned (.bool (st.any over)) ∧ w = w' := by
  cases st with
  | none =>
    obtain ⟨s, hs⟩ := h
    exact (over_calls rb s true w hs.at').mono fun e w' h => h
  | some l => exact (over_calls rb l false w h.1.at').mono fun e w' h => h
/-- Behind a dot. -/
def dot (st : Option (List UInt8)) : Option (List UInt8) := match st with
  | none => none
  | some r => if ([46] : List UInt8).isPrefixOf r = true then some (r.drop 1) else none
theorem dot_any_calls (w0 : World) (rb : Nat) (st : Option (List UInt8)) (w : World) (h : PSt w0 w rb st) :
    Calls Tryz.prog 30 #[.pointer (some ⟨rb, 0, none⟩), .string (mkS [46])] w fun e w' => e = .returned (.tuple #[]) ∧ PSt w0 w' rb (dot st) ∧ w.grownBy w' (some rb) := by
  cases st with
  | none =>
    obtain ⟨s, hs⟩ := h
    refine (must_bad_calls rb s [46] w hs.at').mono ?_
    rintro e w' ⟨h1, h2⟩
    exact ⟨h1, ⟨s, hs.trans h2⟩, h2.grown⟩
  | some l =>
    obtain ⟨hs, hv, hl⟩ := h
    refine (must_calls rb l [46] w hs.at').mono ?_
    rintro e w' ⟨h1, h2⟩
    unfold dot
    dsimp only
    cases hp : ([46] : List UInt8).isPrefixOf l with
    | true =>
      rw [hp] at h2
      exact ⟨h1, ⟨hs.trans h2, valid_drop [46] (by decide) l hp hv, by simp; omega⟩, h2.grown⟩
    | false =>
      rw [hp] at h2
      exact ⟨h1, ⟨_, hs.trans h2⟩, h2.grown⟩
end Go.Proofs.YtmcoloapiiakbaaGreatDoor.Prg
