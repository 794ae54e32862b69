/-
  What is shown is read: a term's text stands for it, a triple's line for the triple.
-/
import Derived.Test.YtmcoloapiiakbaaGreatDoorLineEq
set_option linter.unusedVariables false
set_option linter.unusedSimpArgs false
namespace Go.Proofs.YtmcoloapiiakbaaGreatDoor.Round
open Go.Lib Go.Proofs.YtmcoloapiiakbaaGreatDoor.B Go.Proofs.YtmcoloapiiakbaaGreatDoor.Utf Go.Proofs.YtmcoloapiiakbaaGreatDoor.TermPure Go.Proofs.YtmcoloapiiakbaaGreatDoor.LinesPure

/-! ### valid text -/
theorem decode_front {l ch t : List UInt8} {c : Nat} (h : Chunk l ch t c) (r : List UInt8) : decodeL (ch ++ r) = (c, ch.length) := by
  have g : ∀ i, i < ch.length → (ch ++ r).getD i 0 = (ch ++ t).getD i 0 := fun i hi => by
    rw [List.getD_eq_getElem?_getD, List.getD_eq_getElem?_getD, List.getElem?_append_left hi, List.getElem?_append_left hi]
  have hd := h.dec
  have h2 := h.two
  have h4 := h.four
  have hge := h.ge
  rw [h.eq, decodeL_N] at hd
  rw [decodeL_N, List.length_append]
  have sh := decodeN_shape (ch ++ t).length ((ch ++ t).getD 0 0).toNat ((ch ++ t).getD 1 0).toNat ((ch ++ t).getD 2 0).toNat ((ch ++ t).getD 3 0).toNat
  rw [hd] at sh
  rcases sh with ⟨c1, e⟩ | ⟨c1, c2, c3, cv, e⟩ | ⟨c1, c2, c3, c4, cv, cs, e⟩ | ⟨c1, c2, c3, c4, c5, cv, cw, e⟩ | e
  · simp only [Prod.mk.injEq] at e
    omega
  · simp only [Prod.mk.injEq] at e
    rw [g 0 (by omega), g 1 (by omega)]
    rw [e.1, e.2]
    generalize ((ch ++ t).getD 0 0).toNat = b0 at *
    generalize ((ch ++ t).getD 1 0).toNat = b1 at *
    unfold decodeN
    rw [if_neg (by omega), if_pos (by omega), if_pos (by omega)]
  · simp only [Prod.mk.injEq] at e
    rw [g 0 (by omega), g 1 (by omega), g 2 (by omega)]
    rw [e.1, e.2]
    generalize ((ch ++ t).getD 0 0).toNat = b0 at *
    generalize ((ch ++ t).getD 1 0).toNat = b1 at *
    generalize ((ch ++ t).getD 2 0).toNat = b2 at *
    unfold decodeN
    rw [if_neg (by omega), if_neg (by omega), if_pos (by omega), if_pos (by omega)]
  · simp only [Prod.mk.injEq] at e
    rw [g 0 (by omega), g 1 (by omega), g 2 (by omega), g 3 (by omega)]
    rw [e.1, e.2]
    generalize ((ch ++ t).getD 0 0).toNat = b0 at *
    generalize ((ch ++ t).getD 1 0).toNat = b1 at *
    generalize ((ch ++ t).getD 2 0).toNat = b2 at *
    generalize ((ch ++ t).getD 3 0).toNat = b3 at *
    unfold decodeN
    rw [if_neg (by omega), if_neg (by omega), if_neg (by omega), if_pos (by omega), if_pos (by omega)]
  · simp only [Prod.mk.injEq] at e
    omega
theorem valid_front {l ch t : List UInt8} {c : Nat} (h : Chunk l ch t c) (r : List UInt8) : validD (ch ++ r) = validD r := by
  have hne : ch ++ r ≠ [] := by
    have h2 := h.two
    intro e
    have h3 := congrArg List.length e
    rw [List.length_append, List.length_nil] at h3
    omega
  rw [validD_step _ hne, decode_front h r, if_neg (by have := h.two; dsimp only; omega)]
  dsimp only
  rw [List.drop_left]
theorem valid_app : ∀ (n : Nat) (a b : List UInt8), a.length ≤ n → validD a = true → validD b = true → validD (a ++ b) = true
  | _, [], b, _, _, hb => hb
  | 0, x :: a, b, h, _, _ => by simp at h
  | n + 1, x :: a, b, h, ha, hb => by
    simp at h
    rcases Utf.step (x :: a) (by simp) ha with ⟨b', t, e, hb', hd, ht⟩ | ⟨ch, t, c, hc⟩
    · cases e
      rw [List.cons_append, validD_cons x _ hb']
      exact valid_app n a b h ht hb
    · have hl := congrArg List.length hc.eq
      rw [List.length_append] at hl
      simp at hl
      have := hc.two
      rw [hc.eq, List.append_assoc, valid_front hc]
      exact valid_app n t b (by omega) hc.rest hb
theorem valid_append {a b : List UInt8} (ha : validD a = true) (hb : validD b = true) : validD (a ++ b) = true := valid_app a.length a b (Nat.le_refl _) ha hb
theorem valid_low {a : List UInt8} (h : ∀ b ∈ a, b.toNat < 128) : validD a = true := by
  rw [validD_ascii a.length a (fun b hb => h b (List.mem_of_mem_take hb)), List.drop_length]
  rfl

/-! ### literals -/
theorem escB_high (b : UInt8) (h : 128 ≤ b.toNat) : escB b = [b] := by
  unfold escB
  have ne : ∀ k : UInt8, k.toNat < 128 → b ≠ k := fun k hk e => by rw [e] at h; omega
  rw [if_neg (ne 34 (by decide)), if_neg (ne 92 (by decide)), if_neg (ne 10 (by decide)), if_neg (ne 13 (by decide)), if_neg (ne 9 (by decide)), if_neg (ne 8 (by decide)), if_neg (ne 12 (by decide)), if_neg (by omega)]
theorem esc_low_all : ∀ k : Fin 128, ∀ x ∈ escB (UInt8.ofNat k.val), x.toNat < 128 := by decide +kernel
theorem byte_eq (b : UInt8) (h : b.toNat < 128) : ∃ k : Fin 128, b = UInt8.ofNat k.val := ⟨⟨b.toNat, h⟩, by simp⟩
theorem escB_low (b : UInt8) (h : b.toNat < 128) : ∀ x ∈ escB b, x.toNat < 128 := by
  obtain ⟨k, rfl⟩ := byte_eq b h
  exact esc_low_all k
theorem flat_high : ∀ l : List UInt8, (∀ b ∈ l, 128 ≤ b.toNat) → l.flatMap escB = l
  | [], _ => rfl
  | b :: l, h => by
    rw [List.flatMap_cons, escB_high b (h b (by simp)), flat_high l (fun x hx => h x (by simp [hx]))]
    rfl
theorem valid_esc : ∀ (n : Nat) (s : List UInt8), s.length ≤ n → validD s = true → validD (s.flatMap escB) = true
  | _, [], _, _ => rfl
  | 0, x :: a, h, _ => by simp at h
  | n + 1, x :: a, h, ha => by
    simp at h
    rcases Utf.step (x :: a) (by simp) ha with ⟨b', t, e, hb', hd, ht⟩ | ⟨ch, t, c, hc⟩
    · cases e
      rw [List.flatMap_cons]
      exact valid_append (valid_low (escB_low x hb')) (valid_esc n a h ht)
    · have hl := congrArg List.length hc.eq
      rw [List.length_append] at hl
      simp at hl
      have := hc.two
      rw [hc.eq, List.flatMap_append, flat_high ch hc.high, valid_front hc]
      exact valid_esc n t (by omega) hc.rest
/-- What is read of a byte that is shown. -/
def Reads (b : UInt8) : Prop := ∀ (nl : Bool) (r : List UInt8), up 34 true nl (escB b ++ r) = (up 34 true nl r).map fun x => (b :: x.1, x.2)
theorem reads_esc (b c : UInt8) (h : escB b = [92, c]) (h1 : c ≠ 117) (h2 : c ≠ 85) (he : escV c = some b) : Reads b := by
  intro nl r
  rw [h]
  show up 34 true nl (92 :: c :: r) = _
  rw [up_esc 34 true nl 92 (c :: r) [b] r (by decide) rfl (by rw [esc, if_neg h1, if_neg h2, if_pos rfl, he])]
  rfl
theorem hex_all : ∀ k : Fin 128, hexV (hexD (k.val / 16)) = some (k.val / 16) ∧ hexV (hexD (k.val % 16)) = some (k.val % 16) ∧ Lib.validRune ((k.val : Nat) : Int) = true ∧ encodeRune ((k.val : Nat) : Int) = [UInt8.ofNat k.val] := by decide +kernel
theorem reads_hex (b : UInt8) (hb : b.toNat < 128) (h : escB b = [92, 117, 48, 48, hexD (b.toNat / 16), hexD (b.toNat % 16)]) : Reads b := by
  intro nl r
  obtain ⟨h1, h2, h3, h4⟩ := hex_all ⟨b.toNat, hb⟩
  dsimp only at h1 h2 h3 h4
  rw [h]
  show up 34 true nl (92 :: 117 :: 48 :: 48 :: hexD (b.toNat / 16) :: hexD (b.toNat % 16) :: r) = _
  have hx : hexGo 4 0 (48 :: 48 :: hexD (b.toNat / 16) :: hexD (b.toNat % 16) :: r) = some (b.toNat, r) := by
    rw [hexGo, show hexV 48 = some 0 from rfl]
    dsimp only
    rw [hexGo, show hexV 48 = some 0 from rfl]
    dsimp only
    rw [hexGo, h1]
    dsimp only
    rw [hexGo, h2]
    dsimp only
    rw [hexGo]
    exact congrArg (fun x => some (x, r)) (by omega)
  rw [up_esc 34 true nl 92 _ [b] r (by decide) rfl (by rw [esc, if_pos rfl, hx, rune, if_pos h3, h4]; simp)]
  rfl
theorem reads_all (b : UInt8) : Reads b := by
  by_cases h1 : b = 34
  · subst h1; exact reads_esc _ 34 rfl (by decide) (by decide) rfl
  by_cases h2 : b = 92
  · subst h2; exact reads_esc _ 92 rfl (by decide) (by decide) rfl
  by_cases h3 : b = 10
  · subst h3; exact reads_esc _ 110 rfl (by decide) (by decide) rfl
  by_cases h4 : b = 13
  · subst h4; exact reads_esc _ 114 rfl (by decide) (by decide) rfl
  by_cases h5 : b = 9
  · subst h5; exact reads_esc _ 116 rfl (by decide) (by decide) rfl
  by_cases h6 : b = 8
  · subst h6; exact reads_esc _ 98 rfl (by decide) (by decide) rfl
  by_cases h7 : b = 12
  · subst h7; exact reads_esc _ 102 rfl (by decide) (by decide) rfl
  by_cases h8 : b.toNat < 32 ∨ b.toNat = 127
  · exact reads_hex b (by omega) (by unfold escB; rw [if_neg h1, if_neg h2, if_neg h3, if_neg h4, if_neg h5, if_neg h6, if_neg h7, if_pos h8])
  · intro nl r
    have : escB b = [b] := by unfold escB; rw [if_neg h1, if_neg h2, if_neg h3, if_neg h4, if_neg h5, if_neg h6, if_neg h7, if_neg h8]
    rw [this]
    exact up_other 34 true nl b r h1 h2 (fun h => h.2.elim h3 h4)
theorem up_flat (nl : Bool) (r : List UInt8) : ∀ s : List UInt8, up 34 true nl (s.flatMap escB ++ 34 :: r) = some (s, r)
  | [] => up_stop 34 true nl r
  | b :: s => by
    rw [List.flatMap_cons, List.append_assoc, reads_all b nl, up_flat nl r s]
    rfl

/-! ### IRIs, labels, languages -/
theorem iri_bytes {s : List UInt8} (h : isIRI s = true) : ∀ b ∈ s, b.toNat < 128 → iriRune b.toNat = true := by
  unfold isIRI at h
  simp only [Bool.and_eq_true, decide_eq_true_eq, List.all_eq_true] at h
  intro b hb hlt
  exact h.2.2.2 _ (LineEq.rune_mem s.length s (Nat.le_refl _) h.2.2.1 b hb hlt)
theorem iri_valid {s : List UInt8} (h : isIRI s = true) : validD s = true := by
  unfold isIRI at h
  simp only [Bool.and_eq_true, decide_eq_true_eq] at h
  exact h.2.2.1
theorem up_plain (stop : UInt8) (lit nl : Bool) (r : List UInt8) : ∀ s : List UInt8, (∀ b ∈ s, b ≠ stop ∧ b ≠ 92 ∧ b ≠ 10 ∧ b ≠ 13) → up stop lit nl (s ++ stop :: r) = some (s, r)
  | [], _ => up_stop stop lit nl r
  | b :: s, h => by
    obtain ⟨h1, h2, h3, h4⟩ := h b (by simp)
    rw [List.cons_append, up_other stop lit nl b _ h1 h2 (fun h => h.2.elim h3 h4), up_plain stop lit nl r s (fun x hx => h x (by simp [hx]))]
    rfl
theorem up_iri {s : List UInt8} (h : isIRI s = true) (nl : Bool) (r : List UInt8) : up 62 false nl (s ++ 62 :: r) = some (s, r) := by
  refine up_plain 62 false nl r s fun b hb => ?_
  have hi := iri_bytes h b hb
  refine ⟨?_, ?_, ?_, ?_⟩
  all_goals
    intro e
    subst e
    exact absurd (hi (by decide)) (by decide)
theorem run_all (dash : Bool) (s : List UInt8) (b : UInt8) (r : List UInt8) (h : ∀ x ∈ s, inRun dash x = true) (hb : inRun dash b = false) : LinesPure.run dash (s ++ b :: r) = (s, b :: r) := by
  unfold LinesPure.run
  rw [List.takeWhile_append_of_pos h, List.dropWhile_append_of_pos h, List.takeWhile_cons, List.dropWhile_cons, hb]
  simp
theorem label_bytes {s : List UInt8} (h : isLabel s = true) : ∀ b ∈ s, alnum b.toNat = true := by
  unfold isLabel at h
  simp only [Bool.and_eq_true, decide_eq_true_eq, List.all_eq_true] at h
  exact h.2.2
theorem lang_bytes : ∀ (s : List UInt8) (later : Bool) (n : Nat), langGo later n s = true → ∀ b ∈ s, b = 45 ∨ (97 ≤ b.toNat ∧ b.toNat ≤ 122) ∨ (48 ≤ b.toNat ∧ b.toNat ≤ 57)
  | [], _, _, _, b, hb => by cases hb
  | x :: s, later, n, h, b, hb => by
    rw [langGo] at h
    by_cases h1 : x = 45
    · rw [if_pos h1] at h
      simp only [Bool.and_eq_true] at h
      rcases List.mem_cons.1 hb with rfl | hb
      · exact .inl h1
      · exact lang_bytes s _ _ h.2 b hb
    · rw [if_neg h1] at h
      split at h
      · rename_i hc
        simp only [Bool.and_eq_true] at h
        rcases List.mem_cons.1 hb with rfl | hb
        · simp only [Bool.or_eq_true, Bool.and_eq_true, decide_eq_true_eq] at hc
          rcases hc with hc | hc
          · exact .inr (.inl hc)
          · exact .inr (.inr hc.2)
        · exact lang_bytes s _ _ h.2 b hb
      · cases h
theorem lower_same : ∀ s : List UInt8, (∀ b ∈ s, ¬ (65 ≤ b.toNat ∧ b.toNat ≤ 90)) → toLowerA s = s
  | [], _ => rfl
  | b :: s, h => by
    have h1 := h b (by simp)
    have ih := lower_same s (fun x hx => h x (by simp [hx]))
    unfold toLowerA at *
    rw [List.map_cons, ih]
    congr 1
    unfold lowerB
    rw [if_neg]
    intro hc
    unfold isUpperB at hc
    simp only [Bool.and_eq_true, decide_eq_true_eq, UInt8.le_iff_toNat_le] at hc
    exact h1 hc

/-! ### terms -/
/-- A text that stands for a term. -/
structure Spells (x : List UInt8) (t : Term) : Prop where
  valid : validD x = true
  head : ∃ b r, x = b :: r ∧ LinesPure.blank b = false ∧ b ≠ 35
  reads : ∀ b r, LinesPure.blank b = true → LinesPure.rawTerm false (x ++ b :: r) = some (t, b :: r)
theorem blank_run (b : UInt8) (h : LinesPure.blank b = true) (dash : Bool) : LinesPure.inRun dash b = false := by
  unfold LinesPure.blank at h
  simp only [Bool.or_eq_true, beq_iff_eq] at h
  rcases h with rfl | rfl <;> cases dash <;> rfl
theorem blank_not (b : UInt8) (h : LinesPure.blank b = true) (c : UInt8) (hc : LinesPure.blank c = false) (l r : List UInt8) : (c :: l).isPrefixOf (b :: r) = false := by
  have : (c == b) = false := by rw [beq_eq_false_iff_ne]; intro e; subst e; rw [h] at hc; cases hc
  simp [List.isPrefixOf, this]
/-- A literal's text, and how it stands. -/
theorem literal_reads {s x : List UInt8} {k : Int} {e tail : List UInt8} (hu : ∀ r, up 34 true true (x ++ 34 :: r) = some (s, r)) (b : UInt8) (r : List UInt8) (hb : LinesPure.blank b = true)
    (h : (k = 3 ∧ e = [] ∧ tail = []) ∨ (k = 4 ∧ isLang e = true ∧ tail = 64 :: e) ∨ (k = 5 ∧ isIRI e = true ∧ tail = 94 :: 94 :: 60 :: (e ++ [62]))) :
    LinesPure.rawTerm false (34 :: (x ++ 34 :: tail) ++ b :: r) = some (⟨k, s, e⟩, b :: r) := by
  rw [rawTerm, if_neg (by simp [List.isPrefixOf]), if_neg (by simp [List.isPrefixOf]), if_pos (by simp [List.isPrefixOf])]
  have e0 : ((34 :: (x ++ 34 :: tail) ++ b :: r : List UInt8).drop 1) = x ++ 34 :: (tail ++ b :: r) := by simp
  rw [e0, literal, hu]
  dsimp only
  rcases h with ⟨rfl, rfl, rfl⟩ | ⟨rfl, he, rfl⟩ | ⟨rfl, he, rfl⟩
  · rw [List.nil_append, blank_not b hb 64 (by decide), blank_not b hb 94 (by decide)]
    rfl
  · rw [show [64].isPrefixOf (64 :: e ++ b :: r : List UInt8) = true from by simp [List.isPrefixOf], if_pos rfl]
    have hl : ∀ c ∈ e, c = 45 ∨ (97 ≤ c.toNat ∧ c.toNat ≤ 122) ∨ (48 ≤ c.toNat ∧ c.toNat ≤ 57) := lang_bytes e false 0 (by unfold isLang at he; simp only [Bool.and_eq_true] at he; exact he.1)
    have e1 : ((64 :: e ++ b :: r : List UInt8).drop 1) = e ++ b :: r := rfl
    rw [e1, run_all true e b r ?_ (blank_run b hb true)]
    · dsimp only
      rw [lower_same e ?_]
      intro c hc h
      rcases hl c hc with rfl | h' | h'
      · exact absurd h (by decide)
      · omega
      · omega
    · intro c hc
      unfold inRun alnum
      rcases hl c hc with rfl | h' | h'
      · rfl
      · simp [h']
      · simp [h']
  · rw [show [64].isPrefixOf (94 :: 94 :: 60 :: (e ++ [62]) ++ b :: r : List UInt8) = false from by simp [List.isPrefixOf], if_neg (by simp), show [94, 94].isPrefixOf (94 :: 94 :: 60 :: (e ++ [62]) ++ b :: r : List UInt8) = true from by simp [List.isPrefixOf], if_pos rfl]
    have e1 : ((94 :: 94 :: 60 :: (e ++ [62]) ++ b :: r : List UInt8).drop 2) = 60 :: (e ++ [62]) ++ b :: r := rfl
    have e2 : ((94 :: 94 :: 60 :: (e ++ [62]) ++ b :: r : List UInt8).drop 3) = e ++ 62 :: (b :: r) := by simp
    rw [e1, e2, show [60].isPrefixOf (60 :: (e ++ [62]) ++ b :: r : List UInt8) = true from by simp [List.isPrefixOf], if_pos rfl, up_iri he]
    rfl
theorem iri_reads {s x : List UInt8} (hu : ∀ r, up 62 false false (x ++ 62 :: r) = some (s, r)) (b : UInt8) (r : List UInt8) : LinesPure.rawTerm false (60 :: (x ++ [62]) ++ b :: r) = some (⟨1, s, []⟩, b :: r) := by
  rw [rawTerm, if_pos (by simp [List.isPrefixOf])]
  have e0 : ((60 :: (x ++ [62]) ++ b :: r : List UInt8).drop 1) = x ++ 62 :: (b :: r) := by simp
  rw [e0, hu]
  rfl
theorem blank_reads {s : List UInt8} (h : isLabel s = true) (b : UInt8) (r : List UInt8) (hb : LinesPure.blank b = true) : LinesPure.rawTerm false (95 :: 58 :: s ++ b :: r) = some (⟨2, s, []⟩, b :: r) := by
  rw [rawTerm, if_neg (by simp [List.isPrefixOf]), if_pos (by simp [List.isPrefixOf])]
  have e0 : ((95 :: 58 :: s ++ b :: r : List UInt8).drop 2) = s ++ b :: r := rfl
  rw [e0, run_all false s b r (fun c hc => by unfold inRun; rw [label_bytes h c hc]; rfl) (blank_run b hb false)]
theorem is_cases {t : Term} (h : is t = true) : (t.kind = 1 ∧ isIRI t.text = true ∧ t.extra = []) ∨ (t.kind = 2 ∧ isLabel t.text = true ∧ t.extra = []) ∨ (t.kind = 3 ∧ isText t.text = true ∧ t.extra = []) ∨ (t.kind = 4 ∧ isText t.text = true ∧ isLang t.extra = true) ∨ (t.kind = 5 ∧ isText t.text = true ∧ isIRI t.extra = true) := by
  unfold TermPure.is at h
  split at h
  · rename_i hk; simp only [Bool.and_eq_true, decide_eq_true_eq] at h; exact .inl ⟨hk, h⟩
  split at h
  · rename_i hk; simp only [Bool.and_eq_true, decide_eq_true_eq] at h; exact .inr (.inl ⟨hk, h⟩)
  split at h
  · rename_i hk; simp only [Bool.and_eq_true, decide_eq_true_eq] at h; exact .inr (.inr (.inl ⟨hk, h⟩))
  split at h
  · rename_i hk; simp only [Bool.and_eq_true] at h; exact .inr (.inr (.inr (.inl ⟨hk, h⟩)))
  split at h
  · rename_i hk; simp only [Bool.and_eq_true] at h; exact .inr (.inr (.inr (.inr ⟨hk, h⟩)))
  · cases h
theorem text_valid {s : List UInt8} (h : isText s = true) : validD s = true := by
  unfold isText at h
  simp only [Bool.and_eq_true] at h
  exact h.2
theorem lang_valid {s : List UInt8} (h : isLang s = true) : validD s = true := by
  unfold isLang at h
  simp only [Bool.and_eq_true] at h
  refine valid_low fun b hb => ?_
  rcases lang_bytes s false 0 h.1 b hb with rfl | h' | h'
  · decide
  · omega
  · omega
theorem label_valid {s : List UInt8} (h : isLabel s = true) : validD s = true := by
  refine valid_low fun b hb => ?_
  have := label_bytes h b hb
  unfold alnum at this
  simp only [Bool.or_eq_true, Bool.and_eq_true, decide_eq_true_eq] at this
  omega
theorem valid_cons (b : UInt8) (hb : b.toNat < 128) {t : List UInt8} (h : validD t = true) : validD (b :: t) = true := by rw [validD_cons b t hb]; exact h
theorem valid_quoted {s : List UInt8} (h : validD s = true) : validD (TermPure.quoted s) = true :=
  valid_cons 34 (by decide) (valid_append (valid_esc s.length s (Nat.le_refl _) h) (valid_low (a := [34]) (by decide)))
theorem shown_spells {t : Term} (h : is t = true) : Spells (shown t) t := by
  obtain ⟨k, s, e⟩ := t
  have hc := is_cases h
  dsimp only at hc
  rcases hc with ⟨rfl, h1, rfl⟩ | ⟨rfl, h1, rfl⟩ | ⟨rfl, h1, rfl⟩ | ⟨rfl, h1, h2⟩ | ⟨rfl, h1, h2⟩
  · refine ⟨valid_cons 60 (by decide) (valid_append (iri_valid h1) (valid_low (by decide))), ⟨60, _, rfl, rfl, by decide⟩, fun b r hb => iri_reads (fun r => up_iri h1 false r) b r⟩
  · refine ⟨valid_cons 95 (by decide) (valid_cons 58 (by decide) (label_valid h1)), ⟨95, _, rfl, rfl, by decide⟩, fun b r hb => blank_reads h1 b r hb⟩
  · refine ⟨valid_quoted (text_valid h1), ⟨34, _, rfl, rfl, by decide⟩, fun b r hb => literal_reads (tail := []) (fun r => up_flat true r s) b r hb (.inl ⟨rfl, rfl, rfl⟩)⟩
  · refine ⟨valid_append (valid_quoted (text_valid h1)) (valid_cons 64 (by decide) (lang_valid h2)), ⟨34, _, rfl, rfl, by decide⟩, fun b r hb => ?_⟩
    have := literal_reads (tail := 64 :: e) (fun r => up_flat true r s) b r hb (.inr (.inl ⟨rfl, h2, rfl⟩))
    rw [← this]
    congr 1
    show (34 :: (s.flatMap escB ++ [34]) ++ 64 :: e) ++ b :: r = _
    simp
  · refine ⟨valid_append (valid_quoted (text_valid h1)) (valid_cons 94 (by decide) (valid_cons 94 (by decide) (valid_cons 60 (by decide) (valid_append (iri_valid h2) (valid_low (by decide)))))), ⟨34, _, rfl, rfl, by decide⟩, fun b r hb => ?_⟩
    have := literal_reads (tail := 94 :: 94 :: 60 :: (e ++ [62])) (fun r => up_flat true r s) b r hb (.inr (.inr ⟨rfl, h2, rfl⟩))
    rw [← this]
    congr 1
    show (34 :: (s.flatMap escB ++ [34]) ++ 94 :: 94 :: 60 :: (e ++ [62])) ++ b :: r = _
    simp

/-! ### lines -/
theorem blanks_all (g r : List UInt8) (h : ∀ b ∈ g, LinesPure.blank b = true) : LinesPure.blanks (g ++ r) = blanks r := by
  unfold LinesPure.blanks
  rw [List.dropWhile_append_of_pos h]
theorem blanks_head (b : UInt8) (r : List UInt8) (h : LinesPure.blank b = false) : LinesPure.blanks (b :: r) = b :: r := by
  unfold LinesPure.blanks
  rw [List.dropWhile_cons, h]
  simp
theorem valid_blanks {g : List UInt8} (h : ∀ b ∈ g, LinesPure.blank b = true) : validD g = true := valid_low fun b hb => by
  have := h b hb
  unfold LinesPure.blank at this
  simp only [Bool.or_eq_true, beq_iff_eq] at this
  rcases this with rfl | rfl <;> decide
theorem term_spells {x : List UInt8} {t : Term} (h : Spells x t) (ht : is t = true) (g g' r : List UInt8) (hg : ∀ b ∈ g, LinesPure.blank b = true) (hg' : ∀ b ∈ g', LinesPure.blank b = true) (hne : g' ≠ []) :
    LinesPure.term false (LinesPure.blanks (g ++ (x ++ (g' ++ r)))) = some (t, g' ++ r) := by
  obtain ⟨b, x', rfl, hb, _⟩ := h.head
  obtain ⟨c, g2, rfl⟩ : ∃ c g2, g' = c :: g2 := by cases g' with
    | nil => exact absurd rfl hne
    | cons c g2 => exact ⟨c, g2, rfl⟩
  rw [blanks_all g _ hg, List.cons_append, blanks_head b _ hb]
  have := h.reads c (g2 ++ r) (hg' c (by simp))
  rw [List.cons_append] at this
  rw [LinesPure.term, List.cons_append, this]
  dsimp only
  rw [if_pos ht]
theorem lineOf_spells {t : Triple} (ht : isTriple t = true) {x y z : List UInt8} (hx : Spells x t.s) (hy : Spells y t.p) (hz : Spells z t.o) (g1 g2 g3 g4 tail : List UInt8)
    (h1 : ∀ b ∈ g1, LinesPure.blank b = true) (h2 : ∀ b ∈ g2, LinesPure.blank b = true) (h3 : ∀ b ∈ g3, LinesPure.blank b = true) (h4 : ∀ b ∈ g4, LinesPure.blank b = true) (n2 : g2 ≠ []) (n3 : g3 ≠ []) (n4 : g4 ≠ [])
    (hv : validD tail = true) (ho : LinesPure.over (LinesPure.blanks tail) = true) : lineOf false (g1 ++ (x ++ (g2 ++ (y ++ (g3 ++ (z ++ (g4 ++ 46 :: tail))))))) = some (some t) := by
  have hi := ht
  unfold isTriple at hi
  simp only [Bool.and_eq_true] at hi
  have hval : validD (g1 ++ (x ++ (g2 ++ (y ++ (g3 ++ (z ++ (g4 ++ 46 :: tail))))))) = true :=
    valid_append (valid_blanks h1) (valid_append hx.valid (valid_append (valid_blanks h2) (valid_append hy.valid (valid_append (valid_blanks h3) (valid_append hz.valid (valid_append (valid_blanks h4) (valid_cons 46 (by decide) hv)))))))
  have e1 := term_spells hx hi.1 g1 g2 (y ++ (g3 ++ (z ++ (g4 ++ 46 :: tail)))) h1 h2 n2
  have e2 := term_spells hy hi.2.1 g2 g3 (z ++ (g4 ++ 46 :: tail)) h2 h3 n3
  have e3 := term_spells hz hi.2.2.1 g3 g4 (46 :: tail) h3 h4 n4
  have hnot : LinesPure.over (LinesPure.blanks (g1 ++ (x ++ (g2 ++ (y ++ (g3 ++ (z ++ (g4 ++ 46 :: tail)))))))) = false := by
    obtain ⟨b, x', rfl, hb, hb2⟩ := hx.head
    rw [blanks_all g1 _ h1, List.cons_append, blanks_head b _ hb]
    unfold LinesPure.over
    have : ((35 : UInt8) == b) = false := by rw [beq_eq_false_iff_ne]; exact fun e => hb2 e.symm
    simp [List.isPrefixOf, this]
  rw [lineOf, if_neg (by rw [hval]; simp), if_neg (by rw [hnot]; simp), e1]
  dsimp only
  rw [e2]
  dsimp only
  rw [e3]
  dsimp only
  rw [blanks_all g4 _ h4, blanks_head 46 _ (by decide), if_pos ⟨by simp [List.isPrefixOf], by simpa using ho, ht⟩]
/-- A triple's line. -/
def lineT (t : Triple) : List UInt8 := shown t.s ++ (32 :: (shown t.p ++ (32 :: (shown t.o ++ [32, 46]))))
theorem lineOf_shown {t : Triple} (ht : isTriple t = true) : lineOf false (lineT t) = some (some t) := by
  have hi := ht
  unfold isTriple at hi
  simp only [Bool.and_eq_true] at hi
  have hb : ∀ b ∈ ([32] : List UInt8), LinesPure.blank b = true := by decide
  exact lineOf_spells ht (shown_spells hi.1) (shown_spells hi.2.1) (shown_spells hi.2.2.1) [] [32] [32] [32] [] (by simp) hb hb hb (by simp) (by simp) (by simp) rfl rfl
end Go.Proofs.YtmcoloapiiakbaaGreatDoor.Round
