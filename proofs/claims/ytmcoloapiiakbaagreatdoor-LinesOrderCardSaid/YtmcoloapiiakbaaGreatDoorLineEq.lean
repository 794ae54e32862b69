/-
  The program's way and the reference's way of a line are one.
-/
import Derived.Test.YtmcoloapiiakbaaGreatDoorPrg5
set_option linter.unusedVariables false
set_option linter.unusedSimpArgs false
namespace Go.Proofs.YtmcoloapiiakbaaGreatDoor.LineEq
open Go.Lib Go.Proofs.YtmcoloapiiakbaaGreatDoor.B Go.Proofs.YtmcoloapiiakbaaGreatDoor.Utf Go.Proofs.YtmcoloapiiakbaaGreatDoor.TermPure Go.Proofs.YtmcoloapiiakbaaGreatDoor.LinesPure

theorem up_ways (stop : UInt8) (lit : Bool) : ∀ (n : Nat) (l : List UInt8), l.length ≤ n →
    up stop lit true l = up stop lit false l ∨ (up stop lit true l = none ∧ ∃ o r, up stop lit false l = some (o, r) ∧ ((10 : UInt8) ∈ o ∨ (13 : UInt8) ∈ o))
  | n, [], _ => .inl rfl
  | 0, b :: l, h => by simp at h
  | n + 1, b :: l, h => by
    simp at h
    by_cases h1 : b = stop
    · subst h1
      left
      rw [up_stop, up_stop]
    · by_cases h2 : b = 92
      · cases he : esc lit l with
        | none => left; rw [up_esc_none stop lit true b l h1 h2 he, up_esc_none stop lit false b l h1 h2 he]
        | some p =>
          obtain ⟨o1, r1⟩ := p
          have hl := esc_len lit l o1 r1 he
          rw [up_esc stop lit true b l o1 r1 h1 h2 he, up_esc stop lit false b l o1 r1 h1 h2 he]
          rcases up_ways stop lit n r1 (by omega) with e | ⟨e1, o, r, e2, e3⟩
          · left; rw [e]
          · right
            rw [e1, e2]
            exact ⟨rfl, _, _, rfl, by rcases e3 with e | e <;> simp [e]⟩
      · by_cases h3 : b = 10 ∨ b = 13
        · rw [up_line stop lit true b l h1 h2 ⟨rfl, h3⟩, up_other stop lit false b l h1 h2 (by rintro ⟨h, _⟩; cases h)]
          cases hu : up stop lit false l with
          | none => left; rfl
          | some p =>
            obtain ⟨o, r⟩ := p
            right
            exact ⟨rfl, _, _, rfl, by rcases h3 with e | e <;> simp [e]⟩
        · rw [up_other stop lit true b l h1 h2 (fun h => h3 h.2), up_other stop lit false b l h1 h2 (by rintro ⟨h, _⟩; cases h)]
          rcases up_ways stop lit n l h with e | ⟨e1, o, r, e2, e3⟩
          · left; rw [e]
          · right
            rw [e1, e2]
            exact ⟨rfl, _, _, rfl, by rcases e3 with e | e <;> simp [e]⟩
theorem rune_mem : ∀ (n : Nat) (l : List UInt8), l.length ≤ n → validD l = true → ∀ b ∈ l, b.toNat < 128 → b.toNat ∈ runes l
  | n, [], _, _, b, hb, _ => by cases hb
  | 0, c :: l, h, _, _, _, _ => by simp at h
  | n + 1, c :: l, h, hv, b, hb, hlt => by
    simp at h
    rcases Utf.step (c :: l) (by simp) hv with ⟨b', t, e, hb', hd, ht⟩ | ⟨ch, t, x, hc⟩
    · cases e
      rw [runes_ascii c l hb']
      rcases List.mem_cons.1 hb with rfl | hb
      · simp
      · exact List.mem_cons_of_mem _ (rune_mem n l h ht b hb hlt)
    · rw [runes_chunk hc]
      rw [hc.eq] at hb
      rcases List.mem_append.1 hb with hb | hb
      · have := hc.high b hb; omega
      · have hl := congrArg List.length hc.eq
        rw [List.length_append, List.length_cons] at hl
        have := hc.two
        exact List.mem_cons_of_mem _ (rune_mem n t (by omega) hc.rest b hb hlt)
theorem iri_no_line (o : List UInt8) (h : (10 : UInt8) ∈ o ∨ (13 : UInt8) ∈ o) : isIRI o = false := by
  rw [Bool.eq_false_iff]
  intro hi
  unfold isIRI at hi
  simp only [Bool.and_eq_true] at hi
  obtain ⟨_, _, hv, ha⟩ := hi
  rw [List.all_eq_true] at ha
  rcases h with h | h
  · have := ha _ (rune_mem _ o (Nat.le_refl _) hv _ h (by decide)); exact absurd this (by decide)
  · have := ha _ (rune_mem _ o (Nat.le_refl _) hv _ h (by decide)); exact absurd this (by decide)
/-- One term, read in either way. -/
theorem term_ways (l : List UInt8) : term true l = term false l ∨ (term false l = none ∧ ∃ t r, term true l = some (t, r) ∧ ([94, 94] : List UInt8).isPrefixOf r = true) := by
  unfold term rawTerm
  cases c1 : ([60] : List UInt8).isPrefixOf l with
  | true =>
    left
    simp only [if_true]
    rcases up_ways 62 false _ (l.drop 1) (Nat.le_refl _) with e | ⟨e1, o, r, e2, e3⟩
    · rw [e]
    · rw [e1, e2]
      have hn : is ⟨1, o, []⟩ = false := by
        unfold is
        rw [if_pos rfl, iri_no_line o e3]
        rfl
      simp [hn]
  | false =>
    simp only [Bool.false_eq_true, if_false]
    cases c2 : ([95, 58] : List UInt8).isPrefixOf l with
    | true => left; rfl
    | false =>
      simp only [Bool.false_eq_true, if_false]
      cases c3 : ([34] : List UInt8).isPrefixOf l with
      | false => left; rfl
      | true =>
        simp only [if_true]
        unfold literal
        cases hu : up 34 true true (l.drop 1) with
        | none => left; rfl
        | some p =>
          obtain ⟨t, r⟩ := p
          dsimp only
          cases d1 : ([64] : List UInt8).isPrefixOf r with
          | true => left; rfl
          | false =>
            simp only [Bool.false_eq_true, if_false]
            cases d2 : ([94, 94] : List UInt8).isPrefixOf r with
            | false => left; rfl
            | true =>
              simp only [if_true]
              cases d3 : ([60] : List UInt8).isPrefixOf (r.drop 2) with
              | true =>
                left
                simp only [if_true]
                rcases up_ways 62 false _ (r.drop 3) (Nat.le_refl _) with e | ⟨e1, o, q, e2, e3⟩
                · rw [e]
                · rw [e1, e2]
                  have hn : is ⟨5, t, o⟩ = false := by
                    unfold is
                    rw [if_neg (by simp), if_neg (by simp), if_neg (by simp), if_neg (by simp), if_pos rfl, iri_no_line o e3]
                    simp
                  simp [hn]
              | false =>
                simp only [Bool.false_eq_true, if_false]
                by_cases hi : is ⟨3, t, []⟩ = true
                · right
                  rw [if_pos hi]
                  exact ⟨by first | rfl | trivial, _, _, rfl, d2⟩
                · left
                  rw [if_neg hi]
theorem caret_stop (r : List UInt8) (h : ([94, 94] : List UInt8).isPrefixOf r = true) : blanks r = r ∧ (∀ ref, term ref r = none) ∧ ([46] : List UInt8).isPrefixOf r = false := by
  obtain ⟨t, rfl⟩ : ∃ t, r = 94 :: t := by
    cases r with
    | nil => cases h
    | cons b t =>
      rw [List.isPrefixOf, Bool.and_eq_true, beq_iff_eq] at h
      exact ⟨t, by rw [← h.1]⟩
  refine ⟨rfl, fun ref => ?_, rfl⟩
  have h1 : ([60] : List UInt8).isPrefixOf (94 :: t) = false := rfl
  have h2 : ([95, 58] : List UInt8).isPrefixOf (94 :: t) = false := rfl
  have h3 : ([34] : List UInt8).isPrefixOf (94 :: t) = false := rfl
  rw [term, rawTerm, h1, h2, h3]
  rfl
theorem lineOf_one (s : List UInt8) : lineOf true s = lineOf false s := by
  unfold lineOf
  split
  · rfl
  · split
    · rfl
    · rcases term_ways (blanks s) with e | ⟨e1, t, r, e2, e3⟩
      · rw [e]
        cases term false (blanks s) with
        | none => rfl
        | some x =>
          obtain ⟨a, r⟩ := x
          dsimp only
          rcases term_ways (blanks r) with e | ⟨e1, t, r2, e2, e3⟩
          · rw [e]
            cases term false (blanks r) with
            | none => rfl
            | some x =>
              obtain ⟨p, r2⟩ := x
              dsimp only
              rcases term_ways (blanks r2) with e | ⟨e1, t, r3, e2, e3⟩
              · rw [e]
              · obtain ⟨c1, c2, c3⟩ := caret_stop r3 e3
                rw [e1, e2]
                dsimp only
                rw [c1, c3]
                simp
          · obtain ⟨c1, c2, c3⟩ := caret_stop r2 e3
            rw [e1, e2]
            dsimp only
            rw [c1, c2]
      · obtain ⟨c1, c2, c3⟩ := caret_stop r e3
        rw [e1, e2]
        dsimp only
        rw [c1, c2]
end Go.Proofs.YtmcoloapiiakbaaGreatDoor.LineEq
