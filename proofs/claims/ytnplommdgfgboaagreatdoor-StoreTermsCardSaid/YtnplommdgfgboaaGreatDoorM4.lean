/-
  Texts of the claim, one behind the other: Round, SortPure, OrdG, TriEq, Cmp, TermW, SortT, StoreW, Search, Pack, Clones, Wave, IdsCmp.
-/
import Derived.Test.YtnplommdgfgboaaGreatDoorM3
import Derived.Laws.StructEq
import Derived.WalkKit
import Derived.Sort.Walk0
import Derived.Laws.BitsAllLaws
import Derived.Test.YtnplommdgfgboaaGreatDoorShelf
/-
  What is shown is read: a term's text stands for it, a triple's line for the triple.
-/
set_option linter.unusedVariables false
set_option linter.unusedSimpArgs false
namespace Go.Proofs.YtnplommdgfgboaaGreatDoor.Round
open Go.Lib Go.Proofs.YtnplommdgfgboaaGreatDoor.B Go.Proofs.YtnplommdgfgboaaGreatDoor.Utf Go.Proofs.YtnplommdgfgboaaGreatDoor.TermPure Go.Proofs.YtnplommdgfgboaaGreatDoor.LinesPure

/-! ### valid text -/
theorem decode_front {l ch t : List UInt8} {c : Nat} (h : Chunk l ch t c) (r : List UInt8) : decodeL (ch ++ r) = (c, ch.length) := by
  have g : ∀ i, i < ch.length → (ch ++ r).getD i 0 = (ch ++ t).getD i 0 := fun i hi => by
    rw [List.getD_eq_getElem?_getD, List.getD_eq_getElem?_getD, List.getElem?_append_left hi, List.getElem?_append_left hi]
  have hd := h.dec
  have h2 := h.two
  have h4 := h.four
  have hge := h.ge
  rw [h.eq, decodeL_N] at hd
  rw [decodeL_N, List.length_append]
  have sh := decodeN_shape (ch ++ t).length ((ch ++ t).getD 0 0).toNat ((ch ++ t).getD 1 0).toNat ((ch ++ t).getD 2 0).toNat ((ch ++ t).getD 3 0).toNat
  rw [hd] at sh
  rcases sh with ⟨c1, e⟩ | ⟨c1, c2, c3, cv, e⟩ | ⟨c1, c2, c3, c4, cv, cs, e⟩ | ⟨c1, c2, c3, c4, c5, cv, cw, e⟩ | e
  · simp only [Prod.mk.injEq] at e
    omega
  · simp only [Prod.mk.injEq] at e
    rw [g 0 (by omega), g 1 (by omega)]
    rw [e.1, e.2]
    generalize ((ch ++ t).getD 0 0).toNat = b0 at *
    generalize ((ch ++ t).getD 1 0).toNat = b1 at *
    unfold decodeN
    rw [if_neg (by omega), if_pos (by omega), if_pos (by omega)]
  · simp only [Prod.mk.injEq] at e
    rw [g 0 (by omega), g 1 (by omega), g 2 (by omega)]
    rw [e.1, e.2]
    generalize ((ch ++ t).getD 0 0).toNat = b0 at *
    generalize ((ch ++ t).getD 1 0).toNat = b1 at *
    generalize ((ch ++ t).getD 2 0).toNat = b2 at *
    unfold decodeN
    rw [if_neg (by omega), if_neg (by omega), if_pos (by omega), if_pos (by omega)]
  · simp only [Prod.mk.injEq] at e
    rw [g 0 (by omega), g 1 (by omega), g 2 (by omega), g 3 (by omega)]
    rw [e.1, e.2]
    generalize ((ch ++ t).getD 0 0).toNat = b0 at *
    generalize ((ch ++ t).getD 1 0).toNat = b1 at *
    generalize ((ch ++ t).getD 2 0).toNat = b2 at *
    generalize ((ch ++ t).getD 3 0).toNat = b3 at *
    unfold decodeN
    rw [if_neg (by omega), if_neg (by omega), if_neg (by omega), if_pos (by omega), if_pos (by omega)]
  · simp only [Prod.mk.injEq] at e
    omega
theorem valid_front {l ch t : List UInt8} {c : Nat} (h : Chunk l ch t c) (r : List UInt8) : validD (ch ++ r) = validD r := by
  have hne : ch ++ r ≠ [] := by
    have h2 := h.two
    intro e
    have h3 := congrArg List.length e
    rw [List.length_append, List.length_nil] at h3
    omega
  rw [validD_step _ hne, decode_front h r, if_neg (by have := h.two; dsimp only; omega)]
  dsimp only
  rw [List.drop_left]
theorem valid_app : ∀ (n : Nat) (a b : List UInt8), a.length ≤ n → validD a = true → validD b = true → validD (a ++ b) = true
  | _, [], b, _, _, hb => hb
  | 0, x :: a, b, h, _, _ => by simp at h
  | n + 1, x :: a, b, h, ha, hb => by
    simp at h
    rcases Utf.step (x :: a) (by simp) ha with ⟨b', t, e, hb', hd, ht⟩ | ⟨ch, t, c, hc⟩
    · cases e
      rw [List.cons_append, validD_cons x _ hb']
      exact valid_app n a b h ht hb
    · have hl := congrArg List.length hc.eq
      rw [List.length_append] at hl
      simp at hl
      have := hc.two
      rw [hc.eq, List.append_assoc, valid_front hc]
      exact valid_app n t b (by omega) hc.rest hb
theorem valid_append {a b : List UInt8} (ha : validD a = true) (hb : validD b = true) : validD (a ++ b) = true := valid_app a.length a b (Nat.le_refl _) ha hb
theorem valid_low {a : List UInt8} (h : ∀ b ∈ a, b.toNat < 128) : validD a = true := by
  rw [validD_ascii a.length a (fun b hb => h b (List.mem_of_mem_take hb)), List.drop_length]
  rfl

/-! ### literals -/
theorem escB_high (b : UInt8) (h : 128 ≤ b.toNat) : escB b = [b] := by
  unfold escB
  have ne : ∀ k : UInt8, k.toNat < 128 → b ≠ k := fun k hk e => by rw [e] at h; omega
  rw [if_neg (ne 34 (by decide)), if_neg (ne 92 (by decide)), if_neg (ne 10 (by decide)), if_neg (ne 13 (by decide)), if_neg (ne 9 (by decide)), if_neg (ne 8 (by decide)), if_neg (ne 12 (by decide)), if_neg (by omega)]
theorem esc_low_all : ∀ k : Fin 128, ∀ x ∈ escB (UInt8.ofNat k.val), x.toNat < 128 := by decide +kernel
theorem byte_eq (b : UInt8) (h : b.toNat < 128) : ∃ k : Fin 128, b = UInt8.ofNat k.val := ⟨⟨b.toNat, h⟩, by simp⟩
theorem escB_low (b : UInt8) (h : b.toNat < 128) : ∀ x ∈ escB b, x.toNat < 128 := by
  obtain ⟨k, rfl⟩ := byte_eq b h
  exact esc_low_all k
theorem flat_high : ∀ l : List UInt8, (∀ b ∈ l, 128 ≤ b.toNat) → l.flatMap escB = l
  | [], _ => rfl
  | b :: l, h => by
    rw [List.flatMap_cons, escB_high b (h b (by simp)), flat_high l (fun x hx => h x (by simp [hx]))]
    rfl
theorem valid_esc : ∀ (n : Nat) (s : List UInt8), s.length ≤ n → validD s = true → validD (s.flatMap escB) = true
  | _, [], _, _ => rfl
  | 0, x :: a, h, _ => by simp at h
  | n + 1, x :: a, h, ha => by
    simp at h
    rcases Utf.step (x :: a) (by simp) ha with ⟨b', t, e, hb', hd, ht⟩ | ⟨ch, t, c, hc⟩
    · cases e
      rw [List.flatMap_cons]
      exact valid_append (valid_low (escB_low x hb')) (valid_esc n a h ht)
    · have hl := congrArg List.length hc.eq
      rw [List.length_append] at hl
      simp at hl
      have := hc.two
      rw [hc.eq, List.flatMap_append, flat_high ch hc.high, valid_front hc]
      exact valid_esc n t (by omega) hc.rest
/-- What is read of a byte that is shown. -/
def Reads (b : UInt8) : Prop := ∀ (nl : Bool) (r : List UInt8), up 34 true nl (escB b ++ r) = (up 34 true nl r).map fun x => (b :: x.1, x.2)
theorem reads_esc (b c : UInt8) (h : escB b = [92, c]) (h1 : c ≠ 117) (h2 : c ≠ 85) (he : escV c = some b) : Reads b := by
  intro nl r
  rw [h]
  show up 34 true nl (92 :: c :: r) = _
  rw [up_esc 34 true nl 92 (c :: r) [b] r (by decide) rfl (by rw [esc, if_neg h1, if_neg h2, if_pos rfl, he])]
  rfl
theorem hex_all : ∀ k : Fin 128, hexV (hexD (k.val / 16)) = some (k.val / 16) ∧ hexV (hexD (k.val % 16)) = some (k.val % 16) ∧ Lib.validRune ((k.val : Nat) : Int) = true ∧ encodeRune ((k.val : Nat) : Int) = [UInt8.ofNat k.val] := by decide +kernel
theorem reads_hex (b : UInt8) (hb : b.toNat < 128) (h : escB b = [92, 117, 48, 48, hexD (b.toNat / 16), hexD (b.toNat % 16)]) : Reads b := by
  intro nl r
  obtain ⟨h1, h2, h3, h4⟩ := hex_all ⟨b.toNat, hb⟩
  dsimp only at h1 h2 h3 h4
  rw [h]
  show up 34 true nl (92 :: 117 :: 48 :: 48 :: hexD (b.toNat / 16) :: hexD (b.toNat % 16) :: r) = _
  have hx : hexGo 4 0 (48 :: 48 :: hexD (b.toNat / 16) :: hexD (b.toNat % 16) :: r) = some (b.toNat, r) := by
    rw [hexGo, show hexV 48 = some 0 from rfl]
    dsimp only
    rw [hexGo, show hexV 48 = some 0 from rfl]
    dsimp only
    rw [hexGo, h1]
    dsimp only
    rw [hexGo, h2]
    dsimp only
    rw [hexGo]
    exact congrArg (fun x => some (x, r)) (by omega)
  rw [up_esc 34 true nl 92 _ [b] r (by decide) rfl (by rw [esc, if_pos rfl, hx, rune, if_pos h3, h4]; simp)]
  rfl
theorem reads_all (b : UInt8) : Reads b := by
  by_cases h1 : b = 34
  · subst h1; exact reads_esc _ 34 rfl (by decide) (by decide) rfl
  by_cases h2 : b = 92
  · subst h2; exact reads_esc _ 92 rfl (by decide) (by decide) rfl
  by_cases h3 : b = 10
  · subst h3; exact reads_esc _ 110 rfl (by decide) (by decide) rfl
  by_cases h4 : b = 13
  · subst h4; exact reads_esc _ 114 rfl (by decide) (by decide) rfl
  by_cases h5 : b = 9
  · subst h5; exact reads_esc _ 116 rfl (by decide) (by decide) rfl
  by_cases h6 : b = 8
  · subst h6; exact reads_esc _ 98 rfl (by decide) (by decide) rfl
  by_cases h7 : b = 12
  · subst h7; exact reads_esc _ 102 rfl (by decide) (by decide) rfl
  by_cases h8 : b.toNat < 32 ∨ b.toNat = 127
  · exact reads_hex b (by omega) (by unfold escB; rw [if_neg h1, if_neg h2, if_neg h3, if_neg h4, if_neg h5, if_neg h6, if_neg h7, if_pos h8])
  · intro nl r
    have : escB b = [b] := by unfold escB; rw [if_neg h1, if_neg h2, if_neg h3, if_neg h4, if_neg h5, if_neg h6, if_neg h7, if_neg h8]
    rw [this]
    exact up_other 34 true nl b r h1 h2 (fun h => h.2.elim h3 h4)
theorem up_flat (nl : Bool) (r : List UInt8) : ∀ s : List UInt8, up 34 true nl (s.flatMap escB ++ 34 :: r) = some (s, r)
  | [] => up_stop 34 true nl r
  | b :: s => by
    rw [List.flatMap_cons, List.append_assoc, reads_all b nl, up_flat nl r s]
    rfl

/-! ### IRIs, labels, languages -/
theorem iri_bytes {s : List UInt8} (h : isIRI s = true) : ∀ b ∈ s, b.toNat < 128 → iriRune b.toNat = true := by
  unfold isIRI at h
  simp only [Bool.and_eq_true, decide_eq_true_eq, List.all_eq_true] at h
  intro b hb hlt
  exact h.2.2.2 _ (LineEq.rune_mem s.length s (Nat.le_refl _) h.2.2.1 b hb hlt)
theorem iri_valid {s : List UInt8} (h : isIRI s = true) : validD s = true := by
  unfold isIRI at h
  simp only [Bool.and_eq_true, decide_eq_true_eq] at h
  exact h.2.2.1
theorem up_plain (stop : UInt8) (lit nl : Bool) (r : List UInt8) : ∀ s : List UInt8, (∀ b ∈ s, b ≠ stop ∧ b ≠ 92 ∧ b ≠ 10 ∧ b ≠ 13) → up stop lit nl (s ++ stop :: r) = some (s, r)
  | [], _ => up_stop stop lit nl r
  | b :: s, h => by
    obtain ⟨h1, h2, h3, h4⟩ := h b (by simp)
    rw [List.cons_append, up_other stop lit nl b _ h1 h2 (fun h => h.2.elim h3 h4), up_plain stop lit nl r s (fun x hx => h x (by simp [hx]))]
    rfl
theorem up_iri {s : List UInt8} (h : isIRI s = true) (nl : Bool) (r : List UInt8) : up 62 false nl (s ++ 62 :: r) = some (s, r) := by
  refine up_plain 62 false nl r s fun b hb => ?_
  have hi := iri_bytes h b hb
  refine ⟨?_, ?_, ?_, ?_⟩
  all_goals
    intro e
    subst e
    exact absurd (hi (by decide)) (by decide)
theorem run_all (dash : Bool) (s : List UInt8) (b : UInt8) (r : List UInt8) (h : ∀ x ∈ s, inRun dash x = true) (hb : inRun dash b = false) : LinesPure.run dash (s ++ b :: r) = (s, b :: r) := by
  unfold LinesPure.run
  rw [List.takeWhile_append_of_pos h, List.dropWhile_append_of_pos h, List.takeWhile_cons, List.dropWhile_cons, hb]
  simp
theorem label_bytes {s : List UInt8} (h : isLabel s = true) : ∀ b ∈ s, alnum b.toNat = true := by
  unfold isLabel at h
  simp only [Bool.and_eq_true, decide_eq_true_eq, List.all_eq_true] at h
  exact h.2.2
theorem lang_bytes : ∀ (s : List UInt8) (later : Bool) (n : Nat), langGo later n s = true → ∀ b ∈ s, b = 45 ∨ (97 ≤ b.toNat ∧ b.toNat ≤ 122) ∨ (48 ≤ b.toNat ∧ b.toNat ≤ 57)
  | [], _, _, _, b, hb => by cases hb
  | x :: s, later, n, h, b, hb => by
    rw [langGo] at h
    by_cases h1 : x = 45
    · rw [if_pos h1] at h
      simp only [Bool.and_eq_true] at h
      rcases List.mem_cons.1 hb with rfl | hb
      · exact .inl h1
      · exact lang_bytes s _ _ h.2 b hb
    · rw [if_neg h1] at h
      split at h
      · rename_i hc
        simp only [Bool.and_eq_true] at h
        rcases List.mem_cons.1 hb with rfl | hb
        · simp only [Bool.or_eq_true, Bool.and_eq_true, decide_eq_true_eq] at hc
          rcases hc with hc | hc
          · exact .inr (.inl hc)
          · exact .inr (.inr hc.2)
        · exact lang_bytes s _ _ h.2 b hb
      · cases h
theorem lower_same : ∀ s : List UInt8, (∀ b ∈ s, ¬ (65 ≤ b.toNat ∧ b.toNat ≤ 90)) → toLowerA s = s
  | [], _ => rfl
  | b :: s, h => by
    have h1 := h b (by simp)
    have ih := lower_same s (fun x hx => h x (by simp [hx]))
    unfold toLowerA at *
    rw [List.map_cons, ih]
    congr 1
    unfold lowerB
    rw [if_neg]
    intro hc
    unfold isUpperB at hc
    simp only [Bool.and_eq_true, decide_eq_true_eq, UInt8.le_iff_toNat_le] at hc
    exact h1 hc

/-! ### terms -/
/-- A text that stands for a term. -/
structure Spells (x : List UInt8) (t : Term) : Prop where
  valid : validD x = true
  head : ∃ b r, x = b :: r ∧ LinesPure.blank b = false ∧ b ≠ 35
  reads : ∀ b r, LinesPure.blank b = true → LinesPure.rawTerm false (x ++ b :: r) = some (t, b :: r)
theorem blank_run (b : UInt8) (h : LinesPure.blank b = true) (dash : Bool) : LinesPure.inRun dash b = false := by
  unfold LinesPure.blank at h
  simp only [Bool.or_eq_true, beq_iff_eq] at h
  rcases h with rfl | rfl <;> cases dash <;> rfl
theorem blank_not (b : UInt8) (h : LinesPure.blank b = true) (c : UInt8) (hc : LinesPure.blank c = false) (l r : List UInt8) : (c :: l).isPrefixOf (b :: r) = false := by
  have : (c == b) = false := by rw [beq_eq_false_iff_ne]; intro e; subst e; rw [h] at hc; cases hc
  simp [List.isPrefixOf, this]
/-- A literal's text, and how it stands. -/
theorem literal_reads {s x : List UInt8} {k : Int} {e tail : List UInt8} (hu : ∀ r, up 34 true true (x ++ 34 :: r) = some (s, r)) (b : UInt8) (r : List UInt8) (hb : LinesPure.blank b = true)
    (h : (k = 3 ∧ e = [] ∧ tail = []) ∨ (k = 4 ∧ isLang e = true ∧ tail = 64 :: e) ∨ (k = 5 ∧ isIRI e = true ∧ tail = 94 :: 94 :: 60 :: (e ++ [62]))) :
    LinesPure.rawTerm false (34 :: (x ++ 34 :: tail) ++ b :: r) = some (⟨k, s, e⟩, b :: r) := by
  rw [rawTerm, if_neg (by simp [List.isPrefixOf]), if_neg (by simp [List.isPrefixOf]), if_pos (by simp [List.isPrefixOf])]
  have e0 : ((34 :: (x ++ 34 :: tail) ++ b :: r : List UInt8).drop 1) = x ++ 34 :: (tail ++ b :: r) := by simp
  rw [e0, literal, hu]
  dsimp only
  rcases h with ⟨rfl, rfl, rfl⟩ | ⟨rfl, he, rfl⟩ | ⟨rfl, he, rfl⟩
  · rw [List.nil_append, blank_not b hb 64 (by decide), blank_not b hb 94 (by decide)]
    rfl
  · rw [show [64].isPrefixOf (64 :: e ++ b :: r : List UInt8) = true from by simp [List.isPrefixOf], if_pos rfl]
    have hl : ∀ c ∈ e, c = 45 ∨ (97 ≤ c.toNat ∧ c.toNat ≤ 122) ∨ (48 ≤ c.toNat ∧ c.toNat ≤ 57) := lang_bytes e false 0 (by unfold isLang at he; simp only [Bool.and_eq_true] at he; exact he.1)
    have e1 : ((64 :: e ++ b :: r : List UInt8).drop 1) = e ++ b :: r := rfl
    rw [e1, run_all true e b r ?_ (blank_run b hb true)]
    · dsimp only
      rw [lower_same e ?_]
      intro c hc h
      rcases hl c hc with rfl | h' | h'
      · exact absurd h (by decide)
      · omega
      · omega
    · intro c hc
      unfold inRun alnum
      rcases hl c hc with rfl | h' | h'
      · rfl
      · simp [h']
      · simp [h']
  · rw [show [64].isPrefixOf (94 :: 94 :: 60 :: (e ++ [62]) ++ b :: r : List UInt8) = false from by simp [List.isPrefixOf], if_neg (by simp), show [94, 94].isPrefixOf (94 :: 94 :: 60 :: (e ++ [62]) ++ b :: r : List UInt8) = true from by simp [List.isPrefixOf], if_pos rfl]
    have e1 : ((94 :: 94 :: 60 :: (e ++ [62]) ++ b :: r : List UInt8).drop 2) = 60 :: (e ++ [62]) ++ b :: r := rfl
    have e2 : ((94 :: 94 :: 60 :: (e ++ [62]) ++ b :: r : List UInt8).drop 3) = e ++ 62 :: (b :: r) := by simp
    rw [e1, e2, show [60].isPrefixOf (60 :: (e ++ [62]) ++ b :: r : List UInt8) = true from by simp [List.isPrefixOf], if_pos rfl, up_iri he]
    rfl
theorem iri_reads {s x : List UInt8} (hu : ∀ r, up 62 false false (x ++ 62 :: r) = some (s, r)) (b : UInt8) (r : List UInt8) : LinesPure.rawTerm false (60 :: (x ++ [62]) ++ b :: r) = some (⟨1, s, []⟩, b :: r) := by
  rw [rawTerm, if_pos (by simp [List.isPrefixOf])]
  have e0 : ((60 :: (x ++ [62]) ++ b :: r : List UInt8).drop 1) = x ++ 62 :: (b :: r) := by simp
  rw [e0, hu]
  rfl
theorem blank_reads {s : List UInt8} (h : isLabel s = true) (b : UInt8) (r : List UInt8) (hb : LinesPure.blank b = true) : LinesPure.rawTerm false (95 :: 58 :: s ++ b :: r) = some (⟨2, s, []⟩, b :: r) := by
  rw [rawTerm, if_neg (by simp [List.isPrefixOf]), if_pos (by simp [List.isPrefixOf])]
  have e0 : ((95 :: 58 :: s ++ b :: r : List UInt8).drop 2) = s ++ b :: r := rfl
  rw [e0, run_all false s b r (fun c hc => by unfold inRun; rw [label_bytes h c hc]; rfl) (blank_run b hb false)]
theorem is_cases {t : Term} (h : is t = true) : (t.kind = 1 ∧ isIRI t.text = true ∧ t.extra = []) ∨ (t.kind = 2 ∧ isLabel t.text = true ∧ t.extra = []) ∨ (t.kind = 3 ∧ isText t.text = true ∧ t.extra = []) ∨ (t.kind = 4 ∧ isText t.text = true ∧ isLang t.extra = true) ∨ (t.kind = 5 ∧ isText t.text = true ∧ isIRI t.extra = true) := by
  unfold TermPure.is at h
  split at h
  · rename_i hk; simp only [Bool.and_eq_true, decide_eq_true_eq] at h; exact .inl ⟨hk, h⟩
  split at h
  · rename_i hk; simp only [Bool.and_eq_true, decide_eq_true_eq] at h; exact .inr (.inl ⟨hk, h⟩)
  split at h
  · rename_i hk; simp only [Bool.and_eq_true, decide_eq_true_eq] at h; exact .inr (.inr (.inl ⟨hk, h⟩))
  split at h
  · rename_i hk; simp only [Bool.and_eq_true] at h; exact .inr (.inr (.inr (.inl ⟨hk, h⟩)))
  split at h
  · rename_i hk; simp only [Bool.and_eq_true] at h; exact .inr (.inr (.inr (.inr ⟨hk, h⟩)))
  · cases h
theorem text_valid {s : List UInt8} (h : isText s = true) : validD s = true := by
  unfold isText at h
  simp only [Bool.and_eq_true] at h
  exact h.2
theorem lang_valid {s : List UInt8} (h : isLang s = true) : validD s = true := by
  unfold isLang at h
  simp only [Bool.and_eq_true] at h
  refine valid_low fun b hb => ?_
  rcases lang_bytes s false 0 h.1 b hb with rfl | h' | h'
  · decide
  · omega
  · omega
theorem label_valid {s : List UInt8} (h : isLabel s = true) : validD s = true := by
  refine valid_low fun b hb => ?_
  have := label_bytes h b hb
  unfold alnum at this
  simp only [Bool.or_eq_true, Bool.and_eq_true, decide_eq_true_eq] at this
  omega
theorem valid_cons (b : UInt8) (hb : b.toNat < 128) {t : List UInt8} (h : validD t = true) : validD (b :: t) = true := by rw [validD_cons b t hb]; exact h
theorem valid_quoted {s : List UInt8} (h : validD s = true) : validD (TermPure.quoted s) = true :=
  valid_cons 34 (by decide) (valid_append (valid_esc s.length s (Nat.le_refl _) h) (valid_low (a := [34]) (by decide)))
theorem shown_spells {t : Term} (h : is t = true) : Spells (shown t) t := by
  obtain ⟨k, s, e⟩ := t
  have hc := is_cases h
  dsimp only at hc
  rcases hc with ⟨rfl, h1, rfl⟩ | ⟨rfl, h1, rfl⟩ | ⟨rfl, h1, rfl⟩ | ⟨rfl, h1, h2⟩ | ⟨rfl, h1, h2⟩
  · refine ⟨valid_cons 60 (by decide) (valid_append (iri_valid h1) (valid_low (by decide))), ⟨60, _, rfl, rfl, by decide⟩, fun b r hb => iri_reads (fun r => up_iri h1 false r) b r⟩
  · refine ⟨valid_cons 95 (by decide) (valid_cons 58 (by decide) (label_valid h1)), ⟨95, _, rfl, rfl, by decide⟩, fun b r hb => blank_reads h1 b r hb⟩
  · refine ⟨valid_quoted (text_valid h1), ⟨34, _, rfl, rfl, by decide⟩, fun b r hb => literal_reads (tail := []) (fun r => up_flat true r s) b r hb (.inl ⟨rfl, rfl, rfl⟩)⟩
  · refine ⟨valid_append (valid_quoted (text_valid h1)) (valid_cons 64 (by decide) (lang_valid h2)), ⟨34, _, rfl, rfl, by decide⟩, fun b r hb => ?_⟩
    have := literal_reads (tail := 64 :: e) (fun r => up_flat true r s) b r hb (.inr (.inl ⟨rfl, h2, rfl⟩))
    rw [← this]
    congr 1
    show (34 :: (s.flatMap escB ++ [34]) ++ 64 :: e) ++ b :: r = _
    simp
  · refine ⟨valid_append (valid_quoted (text_valid h1)) (valid_cons 94 (by decide) (valid_cons 94 (by decide) (valid_cons 60 (by decide) (valid_append (iri_valid h2) (valid_low (by decide)))))), ⟨34, _, rfl, rfl, by decide⟩, fun b r hb => ?_⟩
    have := literal_reads (tail := 94 :: 94 :: 60 :: (e ++ [62])) (fun r => up_flat true r s) b r hb (.inr (.inr ⟨rfl, h2, rfl⟩))
    rw [← this]
    congr 1
    show (34 :: (s.flatMap escB ++ [34]) ++ 94 :: 94 :: 60 :: (e ++ [62])) ++ b :: r = _
    simp

/-! ### lines -/
theorem blanks_all (g r : List UInt8) (h : ∀ b ∈ g, LinesPure.blank b = true) : LinesPure.blanks (g ++ r) = blanks r := by
  unfold LinesPure.blanks
  rw [List.dropWhile_append_of_pos h]
theorem blanks_head (b : UInt8) (r : List UInt8) (h : LinesPure.blank b = false) : LinesPure.blanks (b :: r) = b :: r := by
  unfold LinesPure.blanks
  rw [List.dropWhile_cons, h]
  simp
theorem valid_blanks {g : List UInt8} (h : ∀ b ∈ g, LinesPure.blank b = true) : validD g = true := valid_low fun b hb => by
  have := h b hb
  unfold LinesPure.blank at this
  simp only [Bool.or_eq_true, beq_iff_eq] at this
  rcases this with rfl | rfl <;> decide
theorem term_spells {x : List UInt8} {t : Term} (h : Spells x t) (ht : is t = true) (g g' r : List UInt8) (hg : ∀ b ∈ g, LinesPure.blank b = true) (hg' : ∀ b ∈ g', LinesPure.blank b = true) (hne : g' ≠ []) :
    LinesPure.term false (LinesPure.blanks (g ++ (x ++ (g' ++ r)))) = some (t, g' ++ r) := by
  obtain ⟨b, x', rfl, hb, _⟩ := h.head
  obtain ⟨c, g2, rfl⟩ : ∃ c g2, g' = c :: g2 := by cases g' with
    | nil => exact absurd rfl hne
    | cons c g2 => exact ⟨c, g2, rfl⟩
  rw [blanks_all g _ hg, List.cons_append, blanks_head b _ hb]
  have := h.reads c (g2 ++ r) (hg' c (by simp))
  rw [List.cons_append] at this
  rw [LinesPure.term, List.cons_append, this]
  dsimp only
  rw [if_pos ht]
theorem lineOf_spells {t : Triple} (ht : isTriple t = true) {x y z : List UInt8} (hx : Spells x t.s) (hy : Spells y t.p) (hz : Spells z t.o) (g1 g2 g3 g4 tail : List UInt8)
    (h1 : ∀ b ∈ g1, LinesPure.blank b = true) (h2 : ∀ b ∈ g2, LinesPure.blank b = true) (h3 : ∀ b ∈ g3, LinesPure.blank b = true) (h4 : ∀ b ∈ g4, LinesPure.blank b = true) (n2 : g2 ≠ []) (n3 : g3 ≠ []) (n4 : g4 ≠ [])
    (hv : validD tail = true) (ho : LinesPure.over (LinesPure.blanks tail) = true) : lineOf false (g1 ++ (x ++ (g2 ++ (y ++ (g3 ++ (z ++ (g4 ++ 46 :: tail))))))) = some (some t) := by
  have hi := ht
  unfold isTriple at hi
  simp only [Bool.and_eq_true] at hi
  have hval : validD (g1 ++ (x ++ (g2 ++ (y ++ (g3 ++ (z ++ (g4 ++ 46 :: tail))))))) = true :=
    valid_append (valid_blanks h1) (valid_append hx.valid (valid_append (valid_blanks h2) (valid_append hy.valid (valid_append (valid_blanks h3) (valid_append hz.valid (valid_append (valid_blanks h4) (valid_cons 46 (by decide) hv)))))))
  have e1 := term_spells hx hi.1 g1 g2 (y ++ (g3 ++ (z ++ (g4 ++ 46 :: tail)))) h1 h2 n2
  have e2 := term_spells hy hi.2.1 g2 g3 (z ++ (g4 ++ 46 :: tail)) h2 h3 n3
  have e3 := term_spells hz hi.2.2.1 g3 g4 (46 :: tail) h3 h4 n4
  have hnot : LinesPure.over (LinesPure.blanks (g1 ++ (x ++ (g2 ++ (y ++ (g3 ++ (z ++ (g4 ++ 46 :: tail)))))))) = false := by
    obtain ⟨b, x', rfl, hb, hb2⟩ := hx.head
    rw [blanks_all g1 _ h1, List.cons_append, blanks_head b _ hb]
    unfold LinesPure.over
    have : ((35 : UInt8) == b) = false := by rw [beq_eq_false_iff_ne]; exact fun e => hb2 e.symm
    simp [List.isPrefixOf, this]
  rw [lineOf, if_neg (by rw [hval]; simp), if_neg (by rw [hnot]; simp), e1]
  dsimp only
  rw [e2]
  dsimp only
  rw [e3]
  dsimp only
  rw [blanks_all g4 _ h4, blanks_head 46 _ (by decide), if_pos ⟨by simp [List.isPrefixOf], by simpa using ho, ht⟩]
/-- A triple's line. -/
def lineT (t : Triple) : List UInt8 := shown t.s ++ (32 :: (shown t.p ++ (32 :: (shown t.o ++ [32, 46]))))
theorem lineOf_shown {t : Triple} (ht : isTriple t = true) : lineOf false (lineT t) = some (some t) := by
  have hi := ht
  unfold isTriple at hi
  simp only [Bool.and_eq_true] at hi
  have hb : ∀ b ∈ ([32] : List UInt8), LinesPure.blank b = true := by decide
  exact lineOf_spells ht (shown_spells hi.1) (shown_spells hi.2.1) (shown_spells hi.2.2.1) [] [32] [32] [32] [] (by simp) hb hb hb (by simp) (by simp) (by simp) rfl rfl
end Go.Proofs.YtnplommdgfgboaaGreatDoor.Round
/-
  The order of triples; a row of triples, each once, rising.
-/
set_option linter.unusedVariables false
set_option linter.unusedSimpArgs false
namespace Go.Proofs.YtnplommdgfgboaaGreatDoor.SortP
open Go.Lib Go.Proofs.YtnplommdgfgboaaGreatDoor.B Go.Proofs.YtnplommdgfgboaaGreatDoor.Utf Go.Proofs.YtnplommdgfgboaaGreatDoor.TermPure Go.Proofs.YtnplommdgfgboaaGreatDoor.LinesPure Go.Proofs.YtnplommdgfgboaaGreatDoor.Round

def cmpL (a b : List UInt8) : Int := if a < b then -1 else if b < a then 1 else 0
theorem cmpL_zero (a b : List UInt8) : cmpL a b = 0 ↔ a = b := by
  unfold cmpL
  constructor
  · intro h
    split at h
    · cases h
    · rename_i h1
      split at h
      · cases h
      · rename_i h2
        exact List.le_antisymm (List.not_lt.1 h2) (List.not_lt.1 h1)
  · rintro rfl
    rw [if_neg (List.lt_irrefl a), if_neg (List.lt_irrefl a)]
theorem cmpL_neg (a b : List UInt8) : cmpL a b < 0 ↔ a < b := by
  unfold cmpL
  split
  · rename_i h; exact ⟨fun _ => h, fun _ => by decide⟩
  · rename_i h
    split
    · exact ⟨fun h' => absurd h' (by decide), fun h' => absurd h' h⟩
    · exact ⟨fun h' => absurd h' (by decide), fun h' => absurd h' h⟩
theorem cmpL_swap (a b : List UInt8) : cmpL b a = - cmpL a b := by
  unfold cmpL
  by_cases h1 : a < b
  · simp [h1, List.lt_asymm h1]
  · by_cases h2 : b < a
    · simp [h1, h2]
    · simp [h1, h2]
theorem cmpL_three (a b : List UInt8) : cmpL a b = -1 ∨ cmpL a b = 0 ∨ cmpL a b = 1 := by
  unfold cmpL
  split
  · exact .inl rfl
  · split
    · exact .inr (.inr rfl)
    · exact .inr (.inl rfl)

def cmpTm (a b : Term) : Int := cmpL (shown a) (shown b)
/-- The first of three that is not nought. -/
def orI (x y z : Int) : Int := if x ≠ 0 then x else if y ≠ 0 then y else z
def cmpT (a b : Triple) : Int := orI (cmpTm a.s b.s) (cmpTm a.p b.p) (cmpTm a.o b.o)
/-- A triple as it is looked at in order. -/
def key (a : Triple) : List UInt8 × List UInt8 × List UInt8 := (shown a.s, shown a.p, shown a.o)
theorem cmpT_zero (a b : Triple) : cmpT a b = 0 ↔ key a = key b := by
  unfold cmpT orI cmpTm key
  have h1 := cmpL_zero (shown a.s) (shown b.s)
  have h2 := cmpL_zero (shown a.p) (shown b.p)
  have h3 := cmpL_zero (shown a.o) (shown b.o)
  simp only [Prod.mk.injEq, ← h1, ← h2, ← h3]
  split
  · omega
  · split <;> omega
theorem cmpT_swap (a b : Triple) : cmpT b a = - cmpT a b := by
  unfold cmpT orI cmpTm
  rw [cmpL_swap (shown a.s), cmpL_swap (shown a.p), cmpL_swap (shown a.o)]
  by_cases h1 : cmpL (shown a.s) (shown b.s) = 0
  · by_cases h2 : cmpL (shown a.p) (shown b.p) = 0
    · simp [h1, h2]
    · simp [h1, h2]
  · simp [h1]
theorem cmpT_three (a b : Triple) : cmpT a b = -1 ∨ cmpT a b = 0 ∨ cmpT a b = 1 := by
  unfold cmpT orI cmpTm
  split
  · exact cmpL_three _ _
  · split
    · exact cmpL_three _ _
    · exact cmpL_three _ _
def ltT (a b : Triple) : Prop := cmpT a b < 0
instance (a b : Triple) : Decidable (ltT a b) := inferInstanceAs (Decidable (cmpT a b < 0))
theorem ltT_iff (a b : Triple) : ltT a b ↔ shown a.s < shown b.s ∨ (shown a.s = shown b.s ∧ (shown a.p < shown b.p ∨ (shown a.p = shown b.p ∧ shown a.o < shown b.o))) := by
  unfold ltT cmpT orI cmpTm
  have a1 := cmpL_zero (shown a.s) (shown b.s)
  have a2 := cmpL_zero (shown a.p) (shown b.p)
  have b1 := cmpL_neg (shown a.s) (shown b.s)
  have b2 := cmpL_neg (shown a.p) (shown b.p)
  have b3 := cmpL_neg (shown a.o) (shown b.o)
  by_cases h1 : shown a.s = shown b.s
  · have h1' : ¬ shown a.s < shown b.s := by rw [h1]; exact List.lt_irrefl _
    rw [if_neg (by simp [a1.2 h1])]
    by_cases h2 : shown a.p = shown b.p
    · have h2' : ¬ shown a.p < shown b.p := by rw [h2]; exact List.lt_irrefl _
      rw [if_neg (by simp [a2.2 h2]), b3]
      simp [h1, h2, List.lt_irrefl]
    · rw [if_pos (fun e => h2 (a2.1 e)), b2]
      simp [h1, h2, List.lt_irrefl]
  · rw [if_pos (fun e => h1 (a1.1 e)), b1]
    simp [h1]
theorem ltT_irrefl (a : Triple) : ¬ ltT a a := by
  unfold ltT
  rw [(cmpT_zero a a).2 rfl]
  decide
theorem ltT_trans {a b c : Triple} (h1 : ltT a b) (h2 : ltT b c) : ltT a c := by
  rw [ltT_iff] at *
  rcases h1 with h1 | ⟨e1, h1⟩
  · rcases h2 with h2 | ⟨e2, _⟩
    · exact .inl (List.lt_trans h1 h2)
    · exact .inl (e2 ▸ h1)
  · rcases h2 with h2 | ⟨e2, h2⟩
    · exact .inl (e1 ▸ h2)
    · refine .inr ⟨e1.trans e2, ?_⟩
      rcases h1 with h1 | ⟨e1, h1⟩
      · rcases h2 with h2 | ⟨e2, _⟩
        · exact .inl (List.lt_trans h1 h2)
        · exact .inl (e2 ▸ h1)
      · rcases h2 with h2 | ⟨e2, h2⟩
        · exact .inl (e1 ▸ h2)
        · exact .inr ⟨e1.trans e2, List.lt_trans h1 h2⟩
theorem ltT_asymm {a b : Triple} (h1 : ltT a b) : ¬ ltT b a := fun h2 => ltT_irrefl a (ltT_trans h1 h2)
theorem ltT_key {a b c : Triple} (h : key a = key b) : (ltT a c ↔ ltT b c) ∧ (ltT c a ↔ ltT c b) := by
  unfold key at h
  simp only [Prod.mk.injEq] at h
  obtain ⟨h1, h2, h3⟩ := h
  constructor <;> rw [ltT_iff, ltT_iff, h1, h2, h3]
theorem ltT_or (a b : Triple) : ltT a b ∨ key a = key b ∨ ltT b a := by
  rcases cmpT_three a b with h | h | h
  · left; unfold ltT; rw [h]; decide
  · right; left; exact (cmpT_zero a b).1 h
  · right; right; unfold ltT; rw [cmpT_swap, h]; decide
/-- Not behind: transitive. -/
theorem le_trans {a b c : Triple} (h1 : ¬ ltT b a) (h2 : ¬ ltT c b) : ¬ ltT c a := by
  intro h
  rcases ltT_or a b with hab | hab | hab
  · exact h2 (ltT_trans h hab)
  · exact h2 ((ltT_key hab).2.1 h)
  · exact h1 hab

/-! ### what is shown tells the term -/
theorem shown_inj {a b : Term} (ha : is a = true) (hb : is b = true) (h : shown a = shown b) : a = b := by
  have h1 := (shown_spells ha).reads 32 [] rfl
  have h2 := (shown_spells hb).reads 32 [] rfl
  rw [h, h2] at h1
  cases h1
  rfl
theorem key_inj {a b : Triple} (ha : isTriple a = true) (hb : isTriple b = true) (h : key a = key b) : a = b := by
  unfold isTriple at ha hb
  simp only [Bool.and_eq_true] at ha hb
  unfold key at h
  simp only [Prod.mk.injEq] at h
  obtain ⟨s, p, o⟩ := a
  obtain ⟨s', p', o'⟩ := b
  rw [Triple.mk.injEq]
  exact ⟨shown_inj ha.1 hb.1 h.1, shown_inj ha.2.1 hb.2.1 h.2.1, shown_inj ha.2.2.1 hb.2.2.1 h.2.2⟩
theorem cmpT_eq {a b : Triple} (ha : isTriple a = true) (hb : isTriple b = true) : cmpT a b = 0 ↔ a = b :=
  ⟨fun h => key_inj ha hb ((cmpT_zero a b).1 h), fun h => (cmpT_zero a b).2 (by rw [h])⟩

/-! ### sorted rows -/
abbrev Rise (l : List Triple) : Prop := l.Pairwise ltT
abbrev Valid (l : List Triple) : Prop := ∀ t ∈ l, isTriple t = true
theorem rise_eq : ∀ {a b : List Triple}, Rise a → Rise b → (∀ x, x ∈ a ↔ x ∈ b) → a = b
  | [], [], _, _, _ => rfl
  | [], y :: b, _, _, h => absurd ((h y).2 (by simp)) (by simp)
  | x :: a, [], _, _, h => absurd ((h x).1 (by simp)) (by simp)
  | x :: a, y :: b, ha, hb, h => by
    obtain ⟨ha1, ha2⟩ := List.pairwise_cons.1 ha
    obtain ⟨hb1, hb2⟩ := List.pairwise_cons.1 hb
    have hxy : x = y := by
      rcases List.mem_cons.1 ((h x).1 (by simp)) with e | e
      · exact e
      · rcases List.mem_cons.1 ((h y).2 (by simp)) with e' | e'
        · exact e'.symm
        · exact absurd (ha1 y e') (ltT_asymm (hb1 x e))
    subst hxy
    congr 1
    refine rise_eq ha2 hb2 fun z => ?_
    constructor
    · intro hz
      rcases List.mem_cons.1 ((h z).1 (by simp [hz])) with e | e
      · subst e; exact absurd (ha1 z hz) (ltT_irrefl z)
      · exact e
    · intro hz
      rcases List.mem_cons.1 ((h z).2 (by simp [hz])) with e | e
      · subst e; exact absurd (hb1 z hz) (ltT_irrefl z)
      · exact e
/-- A triple among sorted ones, once. -/
def putT : List Triple → Triple → List Triple
  | [], t => [t]
  | x :: l, t => if cmpT x t < 0 then x :: putT l t else if cmpT x t = 0 then x :: l else t :: x :: l
def sortT (l : List Triple) : List Triple := l.foldl putT []
theorem putT_mem : ∀ (l : List Triple) (t : Triple), Valid l → isTriple t = true → ∀ x, x ∈ putT l t ↔ x = t ∨ x ∈ l
  | [], t, _, _, x => by simp [putT]
  | y :: l, t, hl, ht, x => by
    have ih := putT_mem l t (fun z hz => hl z (by simp [hz])) ht x
    rw [putT]
    split
    · rw [List.mem_cons, ih, List.mem_cons]
      constructor
      · rintro (h | h | h)
        · exact .inr (.inl h)
        · exact .inl h
        · exact .inr (.inr h)
      · rintro (h | h | h)
        · exact .inr (.inl h)
        · exact .inl h
        · exact .inr (.inr h)
    · split
      · rename_i h0
        have : y = t := (cmpT_eq (hl y (by simp)) ht).1 h0
        subst this
        constructor
        · intro h; exact .inr h
        · rintro (h | h)
          · subst h; simp
          · exact h
      · simp [or_comm, or_left_comm]
theorem putT_rise : ∀ (l : List Triple) (t : Triple), Valid l → isTriple t = true → Rise l → Rise (putT l t)
  | [], t, _, _, _ => by simp [putT]
  | y :: l, t, hl, ht, hr => by
    obtain ⟨h1, h2⟩ := List.pairwise_cons.1 hr
    have ih := putT_rise l t (fun z hz => hl z (by simp [hz])) ht h2
    rw [putT]
    split
    · rename_i h
      refine List.pairwise_cons.2 ⟨fun z hz => ?_, ih⟩
      rcases (putT_mem l t (fun z hz => hl z (by simp [hz])) ht z).1 hz with e | e
      · subst e; exact h
      · exact h1 z e
    · split
      · exact hr
      · rename_i hn h0
        have hty : ltT t y := by
          rcases ltT_or t y with e | e | e
          · exact e
          · exact absurd ((cmpT_zero y t).2 e.symm) h0
          · exact absurd e hn
        refine List.pairwise_cons.2 ⟨fun z hz => ?_, hr⟩
        rcases List.mem_cons.1 hz with e | e
        · subst e; exact hty
        · exact ltT_trans hty (h1 z e)
theorem fold_put : ∀ (l acc : List Triple), Valid l → Valid acc → Rise acc → Rise (l.foldl putT acc) ∧ ∀ x, x ∈ l.foldl putT acc ↔ x ∈ acc ∨ x ∈ l
  | [], acc, _, _, ha => ⟨ha, fun x => by simp⟩
  | t :: l, acc, hl, hv, ha => by
    have ht := hl t (by simp)
    have hv2 : Valid (putT acc t) := fun x hx => by
      rcases (putT_mem acc t hv ht x).1 hx with e | e
      · subst e; exact ht
      · exact hv x e
    obtain ⟨h1, h2⟩ := fold_put l (putT acc t) (fun z hz => hl z (by simp [hz])) hv2 (putT_rise acc t hv ht ha)
    refine ⟨h1, fun x => ?_⟩
    rw [List.foldl_cons, h2, putT_mem acc t hv ht, List.mem_cons]
    constructor
    · rintro ((h | h) | h)
      · exact .inr (.inl h)
      · exact .inl h
      · exact .inr (.inr h)
    · rintro (h | h | h)
      · exact .inl (.inr h)
      · exact .inl (.inl h)
      · exact .inr h
theorem sortT_rise {l : List Triple} (h : Valid l) : Rise (sortT l) := (fold_put l [] h (fun _ hx => by cases hx) List.Pairwise.nil).1
theorem sortT_mem {l : List Triple} (h : Valid l) (x : Triple) : x ∈ sortT l ↔ x ∈ l := by
  unfold sortT
  rw [(fold_put l [] h (fun _ hx => by cases hx) List.Pairwise.nil).2 x]
  simp
theorem sortT_valid {l : List Triple} (h : Valid l) : Valid (sortT l) := fun x hx => h x ((sortT_mem h x).1 hx)
theorem sortT_eq {l a : List Triple} (h : Valid l) (hr : Rise a) (hm : ∀ x, x ∈ a ↔ x ∈ l) : a = sortT l :=
  rise_eq hr (sortT_rise h) fun x => (hm x).trans (sortT_mem h x).symm
/-- Of neighbours that are one the first. -/
def compactT : List Triple → List Triple
  | [] => []
  | x :: l => x :: (go x l)
where go (x : Triple) : List Triple → List Triple
  | [] => []
  | y :: l => if cmpT y x = 0 then go y l else y :: go y l
theorem compact_go : ∀ (l : List Triple) (x : Triple), Valid (x :: l) → (x :: l).Pairwise (fun a b => ¬ ltT b a) →
    (∀ z, z ∈ compactT.go x l → z ∈ l ∧ ltT x z) ∧ (∀ z, z ∈ l → z = x ∨ z ∈ compactT.go x l) ∧ Rise (compactT.go x l)
  | [], x, _, _ => by simp [compactT.go]
  | y :: l, x, hv, hs => by
    obtain ⟨h1, h2⟩ := List.pairwise_cons.1 hs
    have hvx := hv x (by simp)
    have hvy := hv y (by simp)
    obtain ⟨i1, i2, i3⟩ := compact_go l y (fun z hz => hv z (List.mem_cons_of_mem _ hz)) h2
    rw [compactT.go]
    by_cases h0 : cmpT y x = 0
    · have e := (cmpT_eq hvy hvx).1 h0
      subst e
      rw [if_pos h0]
      refine ⟨fun z hz => ⟨List.mem_cons_of_mem _ (i1 z hz).1, (i1 z hz).2⟩, fun z hz => ?_, i3⟩
      rcases List.mem_cons.1 hz with e | e
      · exact .inl e
      · exact i2 z e
    · rw [if_neg h0]
      have hxy : ltT x y := by
        rcases ltT_or x y with e | e | e
        · exact e
        · exact absurd ((cmpT_zero y x).2 e.symm) h0
        · exact absurd e (h1 y (by simp))
      refine ⟨fun z hz => ?_, fun z hz => ?_, List.pairwise_cons.2 ⟨fun z hz => (i1 z hz).2, i3⟩⟩
      · rcases List.mem_cons.1 hz with e | e
        · subst e; exact ⟨by simp, hxy⟩
        · exact ⟨List.mem_cons_of_mem _ (i1 z e).1, ltT_trans hxy (i1 z e).2⟩
      · rcases List.mem_cons.1 hz with e | e
        · subst e; exact .inr (by simp)
        · rcases i2 z e with e | e
          · subst e; exact .inr (by simp)
          · exact .inr (List.mem_cons_of_mem _ e)
theorem compact_sorted {l a : List Triple} (hv : Valid l) (hp : a.Perm l) (hs : a.Pairwise fun x y => ¬ ltT y x) : compactT a = sortT l := by
  refine sortT_eq hv ?_ ?_
  · cases a with
    | nil => exact List.Pairwise.nil
    | cons x t =>
      obtain ⟨i1, i2, i3⟩ := compact_go t x (fun z hz => hv z (hp.mem_iff.1 hz)) hs
      exact List.pairwise_cons.2 ⟨fun z hz => (i1 z hz).2, i3⟩
  · intro z
    rw [← hp.mem_iff]
    cases a with
    | nil => simp [compactT]
    | cons x t =>
      obtain ⟨i1, i2, i3⟩ := compact_go t x (fun z hz => hv z (hp.mem_iff.1 hz)) hs
      rw [compactT, List.mem_cons, List.mem_cons]
      constructor
      · rintro (h | h)
        · exact .inl h
        · exact .inr (i1 z h).1
      · rintro (h | h)
        · exact .inl h
        · exact i2 z h
end Go.Proofs.YtnplommdgfgboaaGreatDoor.SortP
/-
  Rows that rise, plain, over whatever order: one row of what is in it; put, sorted, compacted.
-/
set_option linter.unusedVariables false
set_option linter.unusedSimpArgs false
namespace Go.Proofs.YtnplommdgfgboaaGreatDoor.OrdG
open Go.Lib Go.Proofs.YtnplommdgfgboaaGreatDoor.TermPure Go.Proofs.YtnplommdgfgboaaGreatDoor.LinesPure Go.Proofs.YtnplommdgfgboaaGreatDoor.SortP Go.Proofs.YtnplommdgfgboaaGreatDoor.Round

/-- An order; those that may stand in a row are told apart by it. -/
structure Ord {α : Type} (lt : α → α → Prop) (V : α → Prop) : Prop where
  irrefl : ∀ a, ¬ lt a a
  trans : ∀ a b c, lt a b → lt b c → lt a c
  tri : ∀ a b, V a → V b → lt a b ∨ a = b ∨ lt b a
section
variable {α : Type} {lt : α → α → Prop} {V : α → Prop}
theorem Ord.uniq (O : Ord lt V) : ∀ {a b : List α}, a.Pairwise lt → b.Pairwise lt → (∀ x, x ∈ a ↔ x ∈ b) → a = b
  | [], [], _, _, _ => rfl
  | [], y :: b, _, _, h => absurd ((h y).2 (by simp)) (by simp)
  | x :: a, [], _, _, h => absurd ((h x).1 (by simp)) (by simp)
  | x :: a, y :: b, ha, hb, h => by
    have ha' := List.pairwise_cons.1 ha
    have hb' := List.pairwise_cons.1 hb
    have hxy : x = y := by
      have h1 := (h x).1 (by simp)
      have h2 := (h y).2 (by simp)
      rcases List.mem_cons.1 h1 with e | h1
      · exact e
      · rcases List.mem_cons.1 h2 with e | h2
        · exact e.symm
        · exact absurd (O.trans _ _ _ (ha'.1 y h2) (hb'.1 x h1)) (O.irrefl x)
    subst hxy
    have := O.uniq ha'.2 hb'.2 (fun z => by
      have hz := h z
      simp only [List.mem_cons] at hz
      constructor
      · intro hm
        rcases hz.1 (.inr hm) with e | h3
        · subst e; exact absurd (ha'.1 z hm) (O.irrefl z)
        · exact h3
      · intro hm
        rcases hz.2 (.inr hm) with e | h3
        · subst e; exact absurd (hb'.1 z hm) (O.irrefl z)
        · exact h3)
    rw [this]
variable [DecidableEq α]
/-- One of each run of equals. -/
def compactE : List α → List α
  | [] => []
  | [x] => [x]
  | x :: y :: l => if x = y then compactE (y :: l) else x :: compactE (y :: l)
theorem compactE_mem : ∀ (l : List α) (x : α), x ∈ compactE l ↔ x ∈ l
  | [], x => Iff.rfl
  | [y], x => Iff.rfl
  | y :: z :: l, x => by
    rw [compactE]
    have ih := compactE_mem (z :: l) x
    by_cases h : y = z
    · rw [if_pos h, ih, h]
      simp
    · rw [if_neg h, List.mem_cons, ih, List.mem_cons (a := x) (b := y)]
theorem compactE_rise (O : Ord lt V) : ∀ (l : List α), (∀ x ∈ l, V x) → l.Pairwise (fun a b => ¬ lt b a) → (compactE l).Pairwise lt
  | [], _, _ => List.Pairwise.nil
  | [x], _, _ => by simp [compactE]
  | x :: y :: l, hv, hp => by
    have hp' := List.pairwise_cons.1 hp
    have ih := compactE_rise O (y :: l) (fun z hz => hv z (by simp [List.mem_cons.1 hz])) hp'.2
    rw [compactE]
    by_cases h : x = y
    · rw [if_pos h]; exact ih
    · rw [if_neg h, List.pairwise_cons]
      refine ⟨fun z hz => ?_, ih⟩
      rw [compactE_mem] at hz
      have hxy : lt x y := by
        rcases O.tri x y (hv x (by simp)) (hv y (by simp)) with h1 | h1 | h1
        · exact h1
        · exact absurd h1 h
        · exact absurd h1 (hp'.1 y (by simp))
      rcases List.mem_cons.1 hz with rfl | hz
      · exact hxy
      · have hp2 := List.pairwise_cons.1 hp'.2
        rcases O.tri y z (hv y (by simp)) (hv z (by simp [hz])) with h1 | h1 | h1
        · exact O.trans _ _ _ hxy h1
        · rw [← h1]; exact hxy
        · exact absurd h1 (hp2.1 z hz)
/-- One behind all that stand ahead of it; once. -/
def putE (ltb : α → α → Bool) : List α → α → List α
  | [], t => [t]
  | x :: l, t => if ltb x t = true then x :: putE ltb l t else if x = t then x :: l else t :: x :: l
theorem putE_mem (ltb : α → α → Bool) : ∀ (l : List α) (t x : α), x ∈ putE ltb l t ↔ x = t ∨ x ∈ l
  | [], t, x => by simp [putE]
  | y :: l, t, x => by
    rw [putE]
    split
    · rw [List.mem_cons, putE_mem ltb l t x, List.mem_cons]
      constructor
      · rintro (h | h | h)
        · exact .inr (.inl h)
        · exact .inl h
        · exact .inr (.inr h)
      · rintro (h | h | h)
        · exact .inr (.inl h)
        · exact .inl h
        · exact .inr (.inr h)
    · split
      · rename_i h
        subst h
        simp
      · simp
theorem putE_rise (O : Ord lt V) (ltb : α → α → Bool) (hb : ∀ x y, ltb x y = true ↔ lt x y) : ∀ (l : List α) (t : α), (∀ x ∈ l, V x) → V t → l.Pairwise lt → (putE ltb l t).Pairwise lt
  | [], t, _, _, _ => by simp [putE]
  | y :: l, t, hv, ht, hp => by
    have hp' := List.pairwise_cons.1 hp
    rw [putE]
    split
    · rename_i h
      rw [List.pairwise_cons]
      refine ⟨fun z hz => ?_, putE_rise O ltb hb l t (fun z hz => hv z (by simp [hz])) ht hp'.2⟩
      rcases (putE_mem ltb l t z).1 hz with rfl | hz
      · exact (hb _ _).1 h
      · exact hp'.1 z hz
    · rename_i h
      split
      · exact hp
      · rename_i hne
        have hty : lt t y := by
          rcases O.tri t y ht (hv y (by simp)) with h1 | h1 | h1
          · exact h1
          · exact absurd h1.symm hne
          · exact absurd ((hb _ _).2 h1) h
        rw [List.pairwise_cons]
        refine ⟨fun z hz => ?_, hp⟩
        rcases List.mem_cons.1 hz with rfl | hz
        · exact hty
        · exact O.trans _ _ _ hty (hp'.1 z hz)
end

/-! ### terms -/
def ltTm (a b : Term) : Prop := shown a < shown b
instance (a b : Term) : Decidable (ltTm a b) := inferInstanceAs (Decidable (shown a < shown b))
theorem ord_term : Ord ltTm (fun t => is t = true) :=
  ⟨fun a => List.lt_irrefl _, fun a b c h1 h2 => List.lt_trans h1 h2, fun a b ha hb => by
    by_cases h1 : shown a < shown b
    · exact .inl h1
    · by_cases h2 : shown b < shown a
      · exact .inr (.inr h2)
      · exact .inr (.inl (shown_inj ha hb (List.le_antisymm (List.not_lt.1 h2) (List.not_lt.1 h1))))⟩
theorem cmpTm_lt (a b : Term) : cmpTm a b < 0 ↔ ltTm a b := cmpL_neg _ _
/-- All that stand in triples. -/
def inTriples (T : List Triple) : List Term := T.flatMap fun t => [t.s, t.p, t.o]
/-- The terms of a set of triples, each once, rising. -/
def termsT (T : List Triple) : List Term := (inTriples T).foldl (putE fun a b => decide (ltTm a b)) []
theorem foldE (l acc : List Term) (hl : ∀ x ∈ l, is x = true) (ha : ∀ x ∈ acc, is x = true) (hr : acc.Pairwise ltTm) :
    (l.foldl (putE fun a b => decide (ltTm a b)) acc).Pairwise ltTm ∧ ∀ x, x ∈ l.foldl (putE fun a b => decide (ltTm a b)) acc ↔ x ∈ acc ∨ x ∈ l := by
  induction l generalizing acc with
  | nil => exact ⟨hr, fun x => by simp⟩
  | cons t l ih =>
    have ht := hl t (by simp)
    have h1 : ∀ x, x ∈ putE (fun a b => decide (ltTm a b)) acc t ↔ x = t ∨ x ∈ acc := putE_mem _ acc t
    obtain ⟨h2, h3⟩ := ih (putE (fun a b => decide (ltTm a b)) acc t) (fun x hx => hl x (by simp [hx])) (fun x hx => ((h1 x).1 hx).elim (fun e => by rw [e]; exact ht) (ha x)) (putE_rise ord_term _ (fun x y => decide_eq_true_iff) acc t ha ht hr)
    refine ⟨h2, fun x => ?_⟩
    rw [List.foldl_cons, h3, h1]
    simp only [List.mem_cons]
    constructor
    · rintro ((h | h) | h)
      · exact .inr (.inl h)
      · exact .inl h
      · exact .inr (.inr h)
    · rintro (h | h | h)
      · exact .inl (.inr h)
      · exact .inl (.inl h)
      · exact .inr h
theorem inTriples_is {T : List Triple} (h : Valid T) : ∀ x ∈ inTriples T, is x = true := by
  intro x hx
  obtain ⟨t, ht, hx⟩ := List.mem_flatMap.1 hx
  have := h t ht
  unfold isTriple at this
  simp only [Bool.and_eq_true] at this
  simp at hx
  rcases hx with rfl | rfl | rfl
  · exact this.1
  · exact this.2.1
  · exact this.2.2.1
theorem termsT_rise {T : List Triple} (h : Valid T) : (termsT T).Pairwise ltTm := (foldE _ [] (inTriples_is h) (by simp) List.Pairwise.nil).1
theorem termsT_mem {T : List Triple} (h : Valid T) (x : Term) : x ∈ termsT T ↔ x ∈ inTriples T := by
  rw [termsT, (foldE _ [] (inTriples_is h) (by simp) List.Pairwise.nil).2]
  simp
theorem termsT_is {T : List Triple} (h : Valid T) : ∀ x ∈ termsT T, is x = true := fun x hx => inTriples_is h x ((termsT_mem h x).1 hx)
/-- What a sorted row of them is, compacted. -/
theorem compact_terms {T : List Triple} (h : Valid T) {l : List Term} (hp : l.Perm (inTriples T)) (hs : l.Pairwise fun a b => ¬ ltTm b a) : compactE l = termsT T := by
  have hv : ∀ x ∈ l, is x = true := fun x hx => inTriples_is h x (hp.mem_iff.1 hx)
  refine ord_term.uniq (compactE_rise ord_term l hv hs) (termsT_rise h) (fun x => ?_)
  rw [compactE_mem, termsT_mem h, hp.mem_iff]
theorem pair_len {l : List Term} : l.Pairwise ltTm → l.Nodup := fun h => h.imp fun hlt e => by rw [e] at hlt; exact List.lt_irrefl _ hlt
/-- A term's number: 0: it has none. -/
def idOf (l : List Term) (t : Term) : Nat := if t ∈ l then l.idxOf t + 1 else 0
/-- A triple's numbers. -/
structure Ids where
  a : Nat
  b : Nat
  c : Nat
deriving DecidableEq
def idsOf (l : List Term) (t : Triple) : Ids := ⟨idOf l t.s, idOf l t.p, idOf l t.o⟩
def idsT (T : List Triple) : List Ids := T.map (idsOf (termsT T))
def ltI (x y : Ids) : Prop := x.a < y.a ∨ (x.a = y.a ∧ (x.b < y.b ∨ (x.b = y.b ∧ x.c < y.c)))
theorem ord_ids : Ord ltI (fun _ => True) :=
  ⟨fun a h => by unfold ltI at h; omega, fun a b c h1 h2 => by unfold ltI at *; omega, fun a b _ _ => by
    unfold ltI
    by_cases h : a = b
    · exact .inr (.inl h)
    · have : ¬ (a.a = b.a ∧ a.b = b.b ∧ a.c = b.c) := fun ⟨h1, h2, h3⟩ => h (by cases a; cases b; simp_all)
      omega⟩
theorem idx_lt {l : List Term} (hr : l.Pairwise ltTm) (hv : ∀ x ∈ l, is x = true) {x y : Term} (hx : x ∈ l) (hy : y ∈ l) : idOf l x < idOf l y ↔ ltTm x y := by
  unfold idOf
  rw [if_pos hx, if_pos hy]
  have ix := List.idxOf_lt_length_of_mem hx
  have iy := List.idxOf_lt_length_of_mem hy
  have ex : l[l.idxOf x] = x := List.getElem_idxOf ix
  have ey : l[l.idxOf y] = y := List.getElem_idxOf iy
  constructor
  · intro h
    have := List.pairwise_iff_getElem.1 hr (l.idxOf x) (l.idxOf y) ix iy (by omega)
    rwa [ex, ey] at this
  · intro h
    by_cases h1 : l.idxOf x < l.idxOf y
    · omega
    · rcases Nat.lt_or_eq_of_le (Nat.not_lt.1 h1) with h2 | h2
      · have := List.pairwise_iff_getElem.1 hr (l.idxOf y) (l.idxOf x) iy ix h2
        rw [ex, ey] at this
        exact absurd (List.lt_trans h this) (List.lt_irrefl _)
      · have : x = y := by rw [← ex, ← ey]; congr 1; exact h2.symm
        rw [this] at h
        exact absurd h (List.lt_irrefl _)
theorem idx_eq {l : List Term} {x y : Term} (hx : x ∈ l) (hy : y ∈ l) : idOf l x = idOf l y ↔ x = y := by
  constructor
  · intro h
    unfold idOf at h
    rw [if_pos hx, if_pos hy] at h
    have ix := List.idxOf_lt_length_of_mem hx
    have iy := List.idxOf_lt_length_of_mem hy
    have ex : l[l.idxOf x] = x := List.getElem_idxOf ix
    have ey : l[l.idxOf y] = y := List.getElem_idxOf iy
    rw [← ex, ← ey]
    congr 1
    omega
  · intro h; rw [h]
theorem mem_three {T : List Triple} {t : Triple} (h : t ∈ T) : t.s ∈ inTriples T ∧ t.p ∈ inTriples T ∧ t.o ∈ inTriples T :=
  ⟨List.mem_flatMap.2 ⟨t, h, by simp⟩, List.mem_flatMap.2 ⟨t, h, by simp⟩, List.mem_flatMap.2 ⟨t, h, by simp⟩⟩
theorem ids_lt {T : List Triple} (hv : Valid T) {x y : Triple} (hx : x ∈ T) (hy : y ∈ T) (h : ltT x y) : ltI (idsOf (termsT T) x) (idsOf (termsT T) y) := by
  obtain ⟨x1, x2, x3⟩ := mem_three hx
  obtain ⟨y1, y2, y3⟩ := mem_three hy
  have hr := termsT_rise hv
  have hi := termsT_is hv
  have m := fun z => (termsT_mem hv z).2
  have v := fun z hz => inTriples_is hv z hz
  rw [ltT_iff] at h
  unfold ltI idsOf
  dsimp only
  rw [idx_lt hr hi (m _ x1) (m _ y1), idx_lt hr hi (m _ x2) (m _ y2), idx_lt hr hi (m _ x3) (m _ y3), idx_eq (m _ x1) (m _ y1), idx_eq (m _ x2) (m _ y2)]
  rcases h with h | ⟨e, h | ⟨e2, h⟩⟩
  · exact .inl h
  · exact .inr ⟨shown_inj (v _ x1) (v _ y1) e, .inl h⟩
  · exact .inr ⟨shown_inj (v _ x1) (v _ y1) e, .inr ⟨shown_inj (v _ x2) (v _ y2) e2, h⟩⟩
theorem idsT_rise {T : List Triple} (hv : Valid T) (hr : Rise T) : (idsT T).Pairwise ltI := by
  unfold idsT
  rw [List.pairwise_map]
  exact hr.imp_of_mem fun hx hy h => ids_lt hv hx hy h
end Go.Proofs.YtnplommdgfgboaaGreatDoor.OrdG
/-
  '==' on terms and triples.
-/
set_option linter.unusedVariables false
set_option linter.unusedSimpArgs false
namespace Go.Proofs.YtnplommdgfgboaaGreatDoor.TriEq
open Go.RowKit Go.Proofs.YtnplommdgfgboaaGreatDoor.B Go.Proofs.YtnplommdgfgboaaGreatDoor.Rd Go.Proofs.YtnplommdgfgboaaGreatDoor.TermPure Go.Proofs.YtnplommdgfgboaaGreatDoor.LinesPure Go.Proofs.YtnplommdgfgboaaGreatDoor.Ref5

theorem str_beq (a b : List UInt8) : ((mkS a).toList == (mkS b).toList) = decide (a = b) := by
  rw [mkS_toList, mkS_toList]
  by_cases h : a = b <;> simp [h]
theorem eq_term (x y : Term) (d : Nat) (w : World) : (Op.equalIn (d + 2) 24 (termV x) (termV y)).run Tryz.prog w = .ok (decide (x = y)) w := by
  have hS : Tryz.prog.underlying 24 = some (.struct (Tryz.prog.fieldsOf 24)) := by kernel_rfl
  have hp : Tryz.prog.stoodInHeld 24 = false := by kernel_rfl
  have u3 := Tryz.underlying3
  have u9 := Tryz.underlying9
  have a3 := Tryz.isAgg3
  have z3 := Tryz.sizeOf3
  have a9 := Tryz.isAgg9
  have z9 := Tryz.sizeOf9
  obtain ⟨xk, xt, xe⟩ := x
  obtain ⟨yk, yt, ye⟩ := y
  unfold termV
  rw [run_equalIn_struct w (d + 1) 24 _ _ hS hp]
  simp only [Program.fieldsOf, Tryz.underlying24]
  go_simp
  simp only [mkS_toList]
  by_cases h1 : xk = yk <;> by_cases h2 : xt = yt <;> by_cases h3 : xe = ye <;> simp [h1, h2, h3]
theorem eq_term' (x y : Term) (d : Nat) (w : World) : (Op.equalIn (d + 2) 24 (.agg #[.int .i64 x.kind, .string (mkS x.text), .string (mkS x.extra)]) (.agg #[.int .i64 y.kind, .string (mkS y.text), .string (mkS y.extra)])).run Tryz.prog w = .ok (decide (x = y)) w := eq_term x y d w
theorem run_eq_term (x y : Term) (w : World) : (binOp .eql 24 (.agg #[.int .i64 x.kind, .string (mkS x.text), .string (mkS x.extra)]) (.agg #[.int .i64 y.kind, .string (mkS y.text), .string (mkS y.extra)])).run Tryz.prog w = .ok (.bool (decide (x = y))) w := by
  rw [run_eql_struct, show (10000 : Nat) = 9998 + 2 from rfl, eq_term']
  rfl
theorem run_eq_tri (x y : Triple) (w : World) : (binOp .eql 36 (tripleV x) (tripleV y)).run Tryz.prog w = .ok (.bool (decide (x = y))) w := by
  have hS : Tryz.prog.underlying 36 = some (.struct (Tryz.prog.fieldsOf 36)) := by kernel_rfl
  have hp : Tryz.prog.stoodInHeld 36 = false := by kernel_rfl
  have a23 := Tryz.isAgg24
  have z23 := Tryz.sizeOf24
  have e := fun (x y : Term) w => eq_term' x y 9997 w
  unfold tripleV
  rw [run_eql_struct, show (10000 : Nat) = 9999 + 1 from rfl, run_equalIn_agg w 9999 36 _ _ hS hp]
  simp only [Program.fieldsOf, Tryz.underlying36]
  go_simp
  obtain ⟨a, b, c⟩ := x
  obtain ⟨a', b', c'⟩ := y
  by_cases h1 : a = a' <;> by_cases h2 : b = b' <;> by_cases h3 : c = c' <;> simp [h1, h2, h3]
end Go.Proofs.YtnplommdgfgboaaGreatDoor.TriEq
/-
  How the program sets terms and triples in order.
-/
set_option linter.unusedVariables false
set_option linter.unusedSimpArgs false
namespace Go.Proofs.YtnplommdgfgboaaGreatDoor.Cmp
open Go.RowKit Go.Lib Go.Proofs.YtnplommdgfgboaaGreatDoor.B Go.Proofs.YtnplommdgfgboaaGreatDoor.Rd Go.Proofs.YtnplommdgfgboaaGreatDoor.Utf Go.Proofs.YtnplommdgfgboaaGreatDoor.TermPure Go.Proofs.YtnplommdgfgboaaGreatDoor.LinesPure Go.Proofs.YtnplommdgfgboaaGreatDoor.Tx Go.Proofs.YtnplommdgfgboaaGreatDoor.Env Go.Proofs.YtnplommdgfgboaaGreatDoor.Tri Go.Proofs.YtnplommdgfgboaaGreatDoor.SortP Go.Proofs.YtnplommdgfgboaaGreatDoor.Print

theorem less_eq (a b : List UInt8) : Op.bytesLess (mkS a).toList (mkS b).toList = decide (a < b) := by rw [mkS_toList, mkS_toList, Go.Proofs.bytesLess_eq]
theorem beq_eq (a b : List UInt8) : ((mkS a).toList == (mkS b).toList) = decide (a = b) := by
  rw [mkS_toList, mkS_toList]
  by_cases h : a = b <;> simp [h]
theorem isNaN_calls (a : List UInt8) (w : World) : Calls Tryz.prog 174 #[.string (mkS a)] w fun e w' => e = .returned (.bool false) ∧ w = w' := by
  go_enter Tryz.func174, Tryz.ntmps174
  go_wp2
  go_ret
  exact ⟨rfl, rfl⟩
theorem compare_calls (a b : List UInt8) (w : World) : Calls Tryz.prog 134 #[.string (mkS a), .string (mkS b)] w fun e w' => e = .returned (.int .i64 (SortP.cmpL a b)) ∧ w = w' := by
  have h1 := less_eq a b
  have h2 := beq_eq a b
  have HC : Hid (SortP.cmpL a b = if a < b then -1 else if b < a then 1 else 0) := Lib.hid rfl
  by_cases l1 : a < b
  · rw [decide_eq_true l1] at h1
    have HV : Hid (SortP.cmpL a b = -1) := Lib.hid (by rw [HC.out, if_pos l1])
    clear l1 HC h2
    go_enter Tryz.func134, Tryz.ntmps134
    go_wp2_with fail
    refine (isNaN_calls a w).mono ?_
    rintro e w1 ⟨rfl, rfl⟩
    go_wp2_with fail
    refine (isNaN_calls b w).mono ?_
    rintro e w1 ⟨rfl, rfl⟩
    go_wp2
    go_ret
    exact ⟨by rw [HV.out]; rfl, rfl⟩
  · rw [decide_eq_false l1] at h1
    by_cases l2 : a = b
    · rw [decide_eq_true l2] at h2
      have HV : Hid (SortP.cmpL a b = 0) := Lib.hid ((SortP.cmpL_zero a b).2 l2)
      clear l1 l2 HC
      go_enter Tryz.func134, Tryz.ntmps134
      go_wp2_with fail
      refine (isNaN_calls a w).mono ?_
      rintro e w1 ⟨rfl, rfl⟩
      go_wp2_with fail
      refine (isNaN_calls b w).mono ?_
      rintro e w1 ⟨rfl, rfl⟩
      go_wp2
      go_ret
      exact ⟨by rw [HV.out]; rfl, rfl⟩
    · rw [decide_eq_false l2] at h2
      have HV : Hid (SortP.cmpL a b = 1) := Lib.hid (by
        rcases SortP.cmpL_three a b with h | h | h
        · exact absurd ((SortP.cmpL_neg a b).1 (by rw [h]; decide)) l1
        · exact absurd ((SortP.cmpL_zero a b).1 h) l2
        · exact h)
      clear l1 l2 HC
      go_enter Tryz.func134, Tryz.ntmps134
      go_wp2_with fail
      refine (isNaN_calls a w).mono ?_
      rintro e w1 ⟨rfl, rfl⟩
      go_wp2_with fail
      refine (isNaN_calls b w).mono ?_
      rintro e w1 ⟨rfl, rfl⟩
      go_wp2
      go_ret
      exact ⟨by rw [HV.out]; rfl, rfl⟩
def SmallM (t : Term) : Prop := t.text.length ≤ 1099511627776 ∧ t.extra.length ≤ 1099511627776
/-- Two boxes. -/
theorem box2 (w : World) (k : Int) (x ex : List UInt8) (k' : Int) (x' ex' : List UInt8) (p : QT.Bel ((w.alloc (.cells #[.int .i64 k, .string (mkS x), .string (mkS ex)] 24)).alloc (.cells #[.int .i64 k', .string (mkS x'), .string (mkS ex')] 24))) :
    (p.w.cell? ⟨w.heap.size, 0, none⟩ = some (.int .i64 k) ∧ p.w.cell? ⟨w.heap.size, 1, none⟩ = some (.string (mkS x)) ∧ p.w.cell? ⟨w.heap.size, 2, none⟩ = some (.string (mkS ex))) ∧
    (p.w.cell? ⟨w.heap.size + 1, 0, none⟩ = some (.int .i64 k') ∧ p.w.cell? ⟨w.heap.size + 1, 1, none⟩ = some (.string (mkS x')) ∧ p.w.cell? ⟨w.heap.size + 1, 2, none⟩ = some (.string (mkS ex'))) := by
  have ht := (Tc.TC.new w ⟨k, x, ex⟩).alloc (.cells #[.int .i64 k', .string (mkS x'), .string (mkS ex')] 24)
  have ht' := Tc.TC.new (w.alloc (.cells #[.int .i64 k, .string (mkS x), .string (mkS ex)] 24)) ⟨k', x', ex'⟩
  rw [show (w.alloc (.cells #[.int .i64 k, .string (mkS x), .string (mkS ex)] 24)).heap.size = w.heap.size + 1 by simp] at ht'
  exact ⟨⟨p.cell ht.c0, p.cell ht.c1, p.cell ht.c2⟩, p.cell ht'.c0, p.cell ht'.c1, p.cell ht'.c2⟩
set_option maxHeartbeats 1600000 in
theorem termCmp_calls (a b : Term) (ha : SmallM a) (hb : SmallM b) (w : World) : Calls Tryz.prog 89 #[Ref5.termV a, Ref5.termV b] w fun e w' => e = .returned (.int .i64 (cmpTm a b)) ∧ Below w.heap.size w w' := by
  obtain ⟨k, x, ex⟩ := a
  obtain ⟨k', x', ex'⟩ := b
  have H1 := Lib.hid (fun w => Show.show_calls ⟨k, x, ex⟩ (Nat.le_trans ha.1 (by decide)) (Nat.le_trans ha.2 (by decide)) w)
  have H2 := Lib.hid (fun w => Show.show_calls ⟨k', x', ex'⟩ (Nat.le_trans hb.1 (by decide)) (Nat.le_trans hb.2 (by decide)) w)
  have H3 := Lib.hid (fun w => (compare_calls (shown ⟨k, x, ex⟩) (shown ⟨k', x', ex'⟩) w).mono (fun e w' (h : e = .returned (.int .i64 (SortP.cmpL (shown ⟨k, x, ex⟩) (shown ⟨k', x', ex'⟩))) ∧ w = w') => (⟨h.1, by rw [h.2]; exact Below.refl _ _⟩ : e = .returned (.int .i64 (SortP.cmpL (shown ⟨k, x, ex⟩) (shown ⟨k', x', ex'⟩))) ∧ Below w.heap.size w w')))
  have HV : Hid (cmpTm ⟨k, x, ex⟩ ⟨k', x', ex'⟩ = SortP.cmpL (shown ⟨k, x, ex⟩) (shown ⟨k', x', ex'⟩)) := Lib.hid rfl
  generalize shown ⟨k, x, ex⟩ = S1 at *
  generalize shown ⟨k', x', ex'⟩ = S2 at *
  have HX := Lib.hid (fun p => box2 w k x ex k' x' ex' p)
  have HBe := Lib.hid (bel_alloc (bel_alloc (Below.refl w.heap.size w) (.cells #[.int .i64 k, .string (mkS x), .string (mkS ex)] 24)) (.cells #[.int .i64 k', .string (mkS x'), .string (mkS ex')] 24))
  have a0 := fun p => (HX.out p).1.1
  have a1 := fun p => (HX.out p).1.2.1
  have a2 := fun p => (HX.out p).1.2.2
  have b0 := fun p => (HX.out p).2.1
  have b1 := fun p => (HX.out p).2.2.1
  have b2 := fun p => (HX.out p).2.2.2
  unfold Ref5.termV
  dsimp only
  clear ha hb
  go_enter Tryz.func89, Tryz.ntmps89
  go_upto_region 1 with fail
  refine QT.region_all (by kernel_rfl) (by kernel_rfl) ?_
  iterate 1 (go_big_quiet_step (fail))
  go_big_quiet_step (exact QT.Bel.call _ (H1.out _))
  iterate 1 (go_big_quiet_step (fail))
  go_big_quiet_step (exact QT.Bel.call _ (H2.out _))
  go_big_quiet_step (exact QT.Bel.call _ (H3.out _))
  repeat (go_big_quiet_step (fail))
  refine wpQuiet_nil ?_
  intro w2 hw'
  obtain ⟨⟨_, hb⟩, rfl⟩ := hw'
  have HB := Lib.hid (bel_step HBe.out hb)
  clear hb a0 a1 a2 b0 b1 b2
  go_wp2
  go_ret
  exact ⟨by rw [HV.out]; rfl, HB.out⟩
set_option maxHeartbeats 1600000 in
theorem or_calls (x y z : Int) (g : Nat) (w : World) (c0 : w.cell? ⟨g, 0, none⟩ = some (.int .i64 x)) (c1 : w.cell? ⟨g, 1, none⟩ = some (.int .i64 y)) (c2 : w.cell? ⟨g, 2, none⟩ = some (.int .i64 z)) :
    Calls Tryz.prog 153 #[.slice (some ⟨g, 0, none⟩) 3 3] w fun e w' => e = .returned (.int .i64 (orI x y z)) ∧ w = w' := by
  go_enter Tryz.func153, Tryz.ntmps153
  go_wp2
  go_loopw [5, 8] (fun v5 vi wr => ∃ k : Nat, k ≤ 3 ∧ vi = .int .i64 k ∧ wr = w ∧ (1 ≤ k → x = 0) ∧ (2 ≤ k → y = 0) ∧ (3 ≤ k → z = 0)) (fun _ vi _ => 3 - (intOf vi).toNat)
  case atStart => exact ⟨0, by omega, by first | rfl | trivial, by first | rfl | trivial, fun h => absurd h (by omega), fun h => absurd h (by omega), fun h => absurd h (by omega)⟩
  case round =>
    obtain ⟨k, hk, rfl, rfl, h1, h2, h3⟩ := hrel
    have hk4 : k = 0 ∨ k = 1 ∨ k = 2 ∨ k = 3 := by omega
    rcases hk4 with rfl | rfl | rfl | rfl
    · clear h1 h2 h3
      by_cases h : x = 0
      · have hn : (x != 0) = false := by simp [h]
        have HZ := Lib.hid h
        clear h
        go_wp2
        go_roundw
        case rel => exact ⟨1, by omega, by first | rfl | trivial, by first | rfl | trivial, fun _ => HZ.out, fun h => absurd h (by omega), fun h => absurd h (by omega)⟩
        case measure => simp [intOf]
      · have hn : (x != 0) = true := by simp [h]
        have HV : Hid (orI x y z = x) := Lib.hid (by unfold orI; rw [if_pos h])
        clear h
        go_wp2
        go_ret
        exact ⟨by rw [HV.out]; rfl, rfl⟩
    · have H1 := Lib.hid (h1 (by omega))
      clear h1 h2 h3
      by_cases h : y = 0
      · have hn : (y != 0) = false := by simp [h]
        have HZ := Lib.hid h
        clear h
        go_wp2
        go_roundw
        case rel => exact ⟨2, by omega, by first | rfl | trivial, by first | rfl | trivial, fun _ => H1.out, fun _ => HZ.out, fun h => absurd h (by omega)⟩
        case measure => simp [intOf]
      · have hn : (y != 0) = true := by simp [h]
        have HV : Hid (orI x y z = y) := Lib.hid (by unfold orI; rw [if_neg (by simp [H1.out]), if_pos h])
        clear h
        go_wp2
        go_ret
        exact ⟨by rw [HV.out]; rfl, rfl⟩
    · have H1 := Lib.hid (h1 (by omega))
      have H2 := Lib.hid (h2 (by omega))
      clear h1 h2 h3
      by_cases h : z = 0
      · have hn : (z != 0) = false := by simp [h]
        have HZ := Lib.hid h
        clear h
        go_wp2
        go_roundw
        case rel => exact ⟨3, by omega, by first | rfl | trivial, by first | rfl | trivial, fun _ => H1.out, fun _ => H2.out, fun _ => HZ.out⟩
        case measure => simp [intOf]
      · have hn : (z != 0) = true := by simp [h]
        have HV : Hid (orI x y z = z) := Lib.hid (by unfold orI; rw [if_neg (by simp [H1.out]), if_neg (by simp [H2.out])])
        clear h
        go_wp2
        go_ret
        exact ⟨by rw [HV.out]; rfl, rfl⟩
    · have HV : Hid (orI x y z = 0) := Lib.hid (by unfold orI; rw [if_neg (by simp [h1 (by omega)]), if_neg (by simp [h2 (by omega)]), h3 (by omega)])
      clear h1 h2 h3
      go_wp2
      go_ret
      exact ⟨by rw [HV.out]; rfl, rfl⟩
/-- Two boxes of triples. -/
theorem box18 (w : World) (a b : Triple) (p : QT.Bel ((w.alloc (.cells #[.int .i64 a.s.kind, .string (mkS a.s.text), .string (mkS a.s.extra), .int .i64 a.p.kind, .string (mkS a.p.text), .string (mkS a.p.extra), .int .i64 a.o.kind, .string (mkS a.o.text), .string (mkS a.o.extra)] 36)).alloc (.cells #[.int .i64 b.s.kind, .string (mkS b.s.text), .string (mkS b.s.extra), .int .i64 b.p.kind, .string (mkS b.p.text), .string (mkS b.p.extra), .int .i64 b.o.kind, .string (mkS b.o.text), .string (mkS b.o.extra)] 36))) :
    (p.w.cell? ⟨w.heap.size, 0, none⟩ = some (.int .i64 a.s.kind) ∧ p.w.cell? ⟨w.heap.size, 1, none⟩ = some (.string (mkS a.s.text)) ∧ p.w.cell? ⟨w.heap.size, 2, none⟩ = some (.string (mkS a.s.extra)) ∧ p.w.cell? ⟨w.heap.size, 3, none⟩ = some (.int .i64 a.p.kind) ∧ p.w.cell? ⟨w.heap.size, 4, none⟩ = some (.string (mkS a.p.text)) ∧ p.w.cell? ⟨w.heap.size, 5, none⟩ = some (.string (mkS a.p.extra)) ∧ p.w.cell? ⟨w.heap.size, 6, none⟩ = some (.int .i64 a.o.kind) ∧ p.w.cell? ⟨w.heap.size, 7, none⟩ = some (.string (mkS a.o.text)) ∧ p.w.cell? ⟨w.heap.size, 8, none⟩ = some (.string (mkS a.o.extra))) ∧
    (p.w.cell? ⟨w.heap.size + 1, 0, none⟩ = some (.int .i64 b.s.kind) ∧ p.w.cell? ⟨w.heap.size + 1, 1, none⟩ = some (.string (mkS b.s.text)) ∧ p.w.cell? ⟨w.heap.size + 1, 2, none⟩ = some (.string (mkS b.s.extra)) ∧ p.w.cell? ⟨w.heap.size + 1, 3, none⟩ = some (.int .i64 b.p.kind) ∧ p.w.cell? ⟨w.heap.size + 1, 4, none⟩ = some (.string (mkS b.p.text)) ∧ p.w.cell? ⟨w.heap.size + 1, 5, none⟩ = some (.string (mkS b.p.extra)) ∧ p.w.cell? ⟨w.heap.size + 1, 6, none⟩ = some (.int .i64 b.o.kind) ∧ p.w.cell? ⟨w.heap.size + 1, 7, none⟩ = some (.string (mkS b.o.text)) ∧ p.w.cell? ⟨w.heap.size + 1, 8, none⟩ = some (.string (mkS b.o.extra))) := by
  have ht := (Ref5.T9.new w a).alloc (.cells #[.int .i64 b.s.kind, .string (mkS b.s.text), .string (mkS b.s.extra), .int .i64 b.p.kind, .string (mkS b.p.text), .string (mkS b.p.extra), .int .i64 b.o.kind, .string (mkS b.o.text), .string (mkS b.o.extra)] 36)
  have ht' := Ref5.T9.new (w.alloc (.cells #[.int .i64 a.s.kind, .string (mkS a.s.text), .string (mkS a.s.extra), .int .i64 a.p.kind, .string (mkS a.p.text), .string (mkS a.p.extra), .int .i64 a.o.kind, .string (mkS a.o.text), .string (mkS a.o.extra)] 36)) b
  rw [show (w.alloc (.cells #[.int .i64 a.s.kind, .string (mkS a.s.text), .string (mkS a.s.extra), .int .i64 a.p.kind, .string (mkS a.p.text), .string (mkS a.p.extra), .int .i64 a.o.kind, .string (mkS a.o.text), .string (mkS a.o.extra)] 36)).heap.size = w.heap.size + 1 by simp] at ht'
  exact ⟨⟨p.cell ht.s.c0, p.cell ht.s.c1, p.cell ht.s.c2, p.cell ht.p.c0, p.cell ht.p.c1, p.cell ht.p.c2, p.cell ht.o.c0, p.cell ht.o.c1, p.cell ht.o.c2⟩, p.cell ht'.s.c0, p.cell ht'.s.c1, p.cell ht'.s.c2, p.cell ht'.p.c0, p.cell ht'.p.c1, p.cell ht'.p.c2, p.cell ht'.o.c0, p.cell ht'.o.c1, p.cell ht'.o.c2⟩
set_option maxHeartbeats 3200000 in
set_option maxRecDepth 100000 in
theorem cmp_calls (a b : Triple) (ha : SmallT a) (hb : SmallT b) (w : World) : Calls Tryz.prog 119 #[Ref5.tripleV a, Ref5.tripleV b] w fun e w' => e = .returned (.int .i64 (cmpT a b)) ∧ Below w.heap.size w w' := by
  have HX := Lib.hid (fun p => box18 w a b p)
  have H1 := Lib.hid (fun w => termCmp_calls a.s b.s ha.1 hb.1 w)
  have H2 := Lib.hid (fun w => termCmp_calls a.p b.p ha.2.1 hb.2.1 w)
  have H3 := Lib.hid (fun w => termCmp_calls a.o b.o ha.2.2 hb.2.2 w)
  have HV : Hid (cmpT a b = orI (cmpTm a.s b.s) (cmpTm a.p b.p) (cmpTm a.o b.o)) := Lib.hid rfl
  have HBe := Lib.hid (bel_alloc (bel_alloc (Below.refl w.heap.size w) (.cells #[.int .i64 a.s.kind, .string (mkS a.s.text), .string (mkS a.s.extra), .int .i64 a.p.kind, .string (mkS a.p.text), .string (mkS a.p.extra), .int .i64 a.o.kind, .string (mkS a.o.text), .string (mkS a.o.extra)] 36)) (.cells #[.int .i64 b.s.kind, .string (mkS b.s.text), .string (mkS b.s.extra), .int .i64 b.p.kind, .string (mkS b.p.text), .string (mkS b.p.extra), .int .i64 b.o.kind, .string (mkS b.o.text), .string (mkS b.o.extra)] 36))
  generalize cmpTm a.s b.s = v1 at *
  generalize cmpTm a.p b.p = v2 at *
  generalize cmpTm a.o b.o = v3 at *
  obtain ⟨⟨sk, sx, se⟩, ⟨pk, px, pe⟩, ⟨ok, ox, oe⟩⟩ := a
  obtain ⟨⟨sk', sx', se'⟩, ⟨pk', px', pe'⟩, ⟨ok', ox', oe'⟩⟩ := b
  unfold Ref5.tripleV
  dsimp only
  clear ha hb
  have a0 := fun p => (HX.out p).1.1
  have a1 := fun p => (HX.out p).1.2.1
  have a2 := fun p => (HX.out p).1.2.2.1
  have a3 := fun p => (HX.out p).1.2.2.2.1
  have a4 := fun p => (HX.out p).1.2.2.2.2.1
  have a5 := fun p => (HX.out p).1.2.2.2.2.2.1
  have a6 := fun p => (HX.out p).1.2.2.2.2.2.2.1
  have a7 := fun p => (HX.out p).1.2.2.2.2.2.2.2.1
  have a8 := fun p => (HX.out p).1.2.2.2.2.2.2.2.2
  have b0 := fun p => (HX.out p).2.1
  have b1 := fun p => (HX.out p).2.2.1
  have b2 := fun p => (HX.out p).2.2.2.1
  have b3 := fun p => (HX.out p).2.2.2.2.1
  have b4 := fun p => (HX.out p).2.2.2.2.2.1
  have b5 := fun p => (HX.out p).2.2.2.2.2.2.1
  have b6 := fun p => (HX.out p).2.2.2.2.2.2.2.1
  have b7 := fun p => (HX.out p).2.2.2.2.2.2.2.2.1
  have b8 := fun p => (HX.out p).2.2.2.2.2.2.2.2.2
  dsimp only at a0 a1 a2 a3 a4 a5 a6 a7 a8 b0 b1 b2 b3 b4 b5 b6 b7 b8
  go_enter Tryz.func119, Tryz.ntmps119
  go_upto_region 1 with fail
  refine QT.region_bel 15 (by kernel_rfl) (by kernel_rfl) ?_
  simp only [List.take_succ_cons, List.take_zero, List.drop_succ_cons, List.drop_zero]
  iterate 4 (go_big_quiet_step (fail))
  go_big_quiet_step (exact QT.Bel.call _ (H1.out _))
  iterate 4 (go_big_quiet_step (fail))
  go_big_quiet_step (exact QT.Bel.call _ (H2.out _))
  iterate 4 (go_big_quiet_step (fail))
  go_big_quiet_step (exact QT.Bel.call _ (H3.out _))
  refine wpQuiet_nil ?_
  intro w2 hw'
  obtain ⟨⟨_, hb⟩, rfl⟩ := hw'
  have HB := Lib.hid (bel_alloc (bel_step HBe.out hb) (.cells #[.int .i64 v1, .int .i64 v2, .int .i64 v3] 3))
  clear hb a0 a1 a2 a3 a4 a5 a6 a7 a8 b0 b1 b2 b3 b4 b5 b6 b7 b8
  go_wp2_with fail
  refine (or_calls v1 v2 v3 _ _ (by unfold World.cell?; dsimp only; rw [Kd.heap_new]; rfl) (by unfold World.cell?; dsimp only; rw [Kd.heap_new]; rfl) (by unfold World.cell?; dsimp only; rw [Kd.heap_new]; rfl)).mono ?_
  rintro e w3 ⟨rfl, rfl⟩
  go_wp2
  go_ret
  exact ⟨by rw [HV.out]; rfl, HB.out⟩
end Go.Proofs.YtnplommdgfgboaaGreatDoor.Cmp
/-
  A row of terms that is worked in place; what compacting it leaves.
-/
set_option linter.unusedVariables false
set_option linter.unusedSectionVars false
set_option linter.unusedSimpArgs false
namespace Go.Proofs.YtnplommdgfgboaaGreatDoor.TermW
open Go.RowKit Go.Lib Go.Proofs.YtnplommdgfgboaaGreatDoor.B Go.Proofs.YtnplommdgfgboaaGreatDoor.Rd Go.Proofs.YtnplommdgfgboaaGreatDoor.TermPure Go.Proofs.YtnplommdgfgboaaGreatDoor.LinesPure Go.Proofs.YtnplommdgfgboaaGreatDoor.Tri Go.Proofs.YtnplommdgfgboaaGreatDoor.OrdG

/-- A term's cells, where it lies. -/
structure C3 (w : World) (g o : Nat) (t : Term) : Prop where
  c0 : w.cell? ⟨g, o, none⟩ = some (.int .i64 t.kind)
  c1 : w.cell? ⟨g, o + 1, none⟩ = some (.string (mkS t.text))
  c2 : w.cell? ⟨g, o + 2, none⟩ = some (.string (mkS t.extra))
theorem C3.of {w : World} {g o : Nat} {t : Term} (h : ∀ j u, (termL t)[j]? = some u → w.cell? ⟨g, o + j, none⟩ = some u) : C3 w g o t := ⟨h 0 _ rfl, h 1 _ rfl, h 2 _ rfl⟩
theorem C3.lt {w : World} {g o : Nat} {t : Term} (h : C3 w g o t) : g < w.heap.size := World.block_lt_of_cell? w ⟨g, o, none⟩ h.c0
theorem C3.moved {w w' : World} {g o : Nat} {t : Term} (h : C3 w g o t) (hm : w'.heap[g]? = w.heap[g]?) : C3 w' g o t :=
  have k : ∀ {i v}, w.cell? ⟨g, i, none⟩ = some v → w'.cell? ⟨g, i, none⟩ = some v := fun {i v} hc => (World.cell?_of_block (a := ⟨g, i, none⟩) hm).trans hc
  ⟨k h.c0, k h.c1, k h.c2⟩
theorem C3.below {w w' : World} {g o : Nat} {t : Term} (h : C3 w g o t) (hb : Below w.heap.size w w') : C3 w' g o t := h.moved (hb.block g h.lt)
theorem C3.bel {w : World} {g o : Nat} {t : Term} (h : C3 w g o t) (p : QT.Bel w) : C3 p.w g o t := ⟨p.cell h.c0, p.cell h.c1, p.cell h.c2⟩
def put3 (w : World) (g o : Nat) (t : Term) : World := ((w.setCell ⟨g, o, none⟩ (.int .i64 t.kind)).setCell ⟨g, o + 1, none⟩ (.string (mkS t.text))).setCell ⟨g, o + 2, none⟩ (.string (mkS t.extra))
theorem some_set {w : World} {a b : Addr} {v : Value} (h : (w.cell? a).isSome = true) : ((w.setCell b v).cell? a).isSome = true := by
  by_cases e : b = a
  · subst e
    rw [World.cell?_setCell_same' _ _ _ h]
    rfl
  · first
      | (rw [World.cell?_setCell_other _ _ _ _ (fun h => e h)]; exact h)
      | (rw [World.cell?_setCell_other _ _ _ _ (fun h => e h.symm)]; exact h)
theorem same_of {w : World} {a : Addr} {v : Value} (h : (w.cell? a).isSome = true) : (w.setCell a v).cell? a = some v := World.cell?_setCell_same' _ _ _ h
theorem put3_other (w : World) (g o : Nat) (t : Term) (j : Nat) (h : j < o ∨ o + 3 ≤ j) : (put3 w g o t).cell? ⟨g, j, none⟩ = w.cell? ⟨g, j, none⟩ := by
  unfold put3
  iterate 3 rw [World.cell?_setCell_other _ _ _ _ (by simp; try omega)]
theorem put3_frozen (w : World) (g o : Nat) (t : Term) (a : Addr) : (put3 w g o t).frozen? a = w.frozen? a := by
  unfold put3
  iterate 3 rw [World.frozen?_setCell]
theorem set_grown {w0 w : World} {g : Nat} (h : w0.grownBy w (some g)) (j : Nat) (v : Value) : w0.grownBy (w.setCell ⟨g, j, none⟩ v) (some g) := h.trans (grown_setCell w ⟨g, j, none⟩ v)
theorem put3_grown (w : World) (g o : Nat) (t : Term) : w.grownBy (put3 w g o t) (some g) := by
  unfold put3
  iterate 3 refine set_grown ?_ _ _
  exact World.grownBy.refl _ _
theorem put3_same {w : World} {g o : Nat} {t0 : Term} (h : C3 w g o t0) (t : Term) : C3 (put3 w g o t) g o t := by
  have s0 : (w.cell? ⟨g, o, none⟩).isSome = true := by rw [h.c0]; rfl
  have s1 : (w.cell? ⟨g, o + 1, none⟩).isSome = true := by rw [h.c1]; rfl
  have s2 : (w.cell? ⟨g, o + 2, none⟩).isSome = true := by rw [h.c2]; rfl
  unfold put3
  constructor
  · iterate 2 rw [World.cell?_setCell_other _ _ _ _ (by simp)]
    exact same_of s0
  · iterate 1 rw [World.cell?_setCell_other _ _ _ _ (by simp)]
    exact same_of (some_set s1)
  · exact same_of (some_set (some_set s2))
/-- A row at the head of block g, of a call's own. -/
structure SR (W : World) (g : Nat) (l : List Term) (w : World) : Prop where
  grown : W.grownBy w (some g)
  cells : ∀ i (h : i < l.length), C3 w g (i * 3) l[i]
  free : ∀ j, j < l.length * 3 → w.frozen? ⟨g, j, none⟩ = false
theorem SR.drewN {W w : World} {g : Nat} {l : List Term} (h : SR W g l w) (n : Nat) : SR W g l (w.drewN n) :=
  ⟨⟨h.grown.os, h.grown.tape, h.grown.output, h.grown.size, h.grown.block⟩, fun i hi => (h.cells i hi).moved rfl, h.free⟩
theorem SR.below {W w w' : World} {g : Nat} {l : List Term} (h : SR W g l w) (hg : g < w.heap.size) (hb : Below w.heap.size w w') : SR W g l w' :=
  ⟨h.grown.trans ⟨hb.os, hb.tape, hb.output, hb.size, fun k hk _ => hb.block k hk⟩, fun i hi => (h.cells i hi).below hb, fun j hj => (hb.frozen (p := ⟨g, j, none⟩) hg).trans (h.free j hj)⟩
theorem SR.at {W w : World} {g : Nat} {l : List Term} (h : SR W g l w) {q : Nat} {x : Term} (hx : l[q]? = some x) : C3 w g (q * 3) x := by
  obtain ⟨hi, rfl⟩ := List.getElem?_eq_some_iff.1 hx
  exact h.cells q hi
theorem SR.set {W w : World} {g : Nat} {l : List Term} (h : SR W g l w) (i : Nat) (hi : i < l.length) (x : Term) : SR W g (l.set i x) (put3 w g (i * 3) x) := by
  refine ⟨h.grown.trans (put3_grown _ _ _ _), fun k hk => ?_, fun q hq => ?_⟩
  · have hk' : k < l.length := by rw [List.length_set] at hk; exact hk
    by_cases e : k = i
    · subst e
      rw [List.getElem_set_self]
      exact put3_same (h.cells k hk') _
    · rw [List.getElem_set_ne (fun h => e h.symm)]
      have hc := h.cells k hk'
      have far : ∀ d, d < 3 → (k * 3 + d < i * 3 ∨ i * 3 + 3 ≤ k * 3 + d) := fun d hd => by omega
      exact ⟨(put3_other _ _ _ _ _ (far 0 (by omega))).trans hc.c0, (put3_other _ _ _ _ _ (far 1 (by omega))).trans hc.c1, (put3_other _ _ _ _ _ (far 2 (by omega))).trans hc.c2⟩
  · rw [put3_frozen]
    rw [List.length_set] at hq
    exact h.free q hq
/-- A row of a call's own, as it is worked in place. -/
theorem SR.of_own {w : World} {base : Nat} {ok : Nat → Prop} {v : Value} {l : List Term} (h : termK.own 24 w base ok v l) (hp : 0 < l.length) :
    ∃ g cap, v = .slice (some ⟨g, 0, none⟩) l.length cap ∧ base ≤ g ∧ g < w.heap.size ∧ l.length ≤ cap ∧ cap ≤ maxLen ∧ SR w g l w := by
  obtain ⟨_, cells, ho, hr⟩ := h
  have ho' := ho
  rcases ho'.2 with ⟨_, h0⟩ | ⟨g, cap, cur, rfl, hg, hh, hnc, hcm, hcs, htake⟩
  · omega
  · have hlt : g < w.heap.size := (Array.getElem?_eq_some_iff.1 hh).1
    refine ⟨g, cap, rfl, hg, hlt, hnc, hcm, World.grownBy.refl _ _, fun i hi => ?_, fun j hj => ?_⟩
    · obtain ⟨hc, _⟩ := hr i l[i] (List.getElem?_eq_getElem hi)
      refine C3.of fun j u hu => ?_
      rw [← hc] at hu
      have := ho.cells rfl _ _ (Kd.take_drop_get hu)
      rw [add_plain] at this
      exact this
    · unfold World.frozen?
      dsimp only
      rw [hh]
      simp
/-- .. and back. -/
theorem SR.own {W w : World} {g cap : Nat} {l : List Term} (h : SR W g l w) (hf : ∀ t ∈ l, FitsW t) (hl : l.length ≤ 140737488355328) (hc : l.length ≤ cap) (hcm : cap ≤ maxLen) (ok : Nat → Prop) (hok : ok g) :
    termK.sl.M w ok l [.slice (some ⟨g, 0, none⟩) l.length cap] := by
  refine ⟨some ⟨g, 0, none⟩, cap, rfl, hc, ⟨hl, hcm⟩, fun h => (by cases h), fun i x hx => ?_⟩
  obtain ⟨hi, rfl⟩ := List.getElem?_eq_some_iff.1 hx
  refine ⟨_, termL l[i], rfl, hok, ⟨rfl, hf _ (List.getElem_mem hi)⟩, fun j u hu => ?_⟩
  rw [add_plain]
  obtain ⟨c0, c1, c2⟩ := h.cells i hi
  have hj : j < 3 := (List.getElem?_eq_some_iff.1 hu).1
  match j, hj with
  | 0, _ => cases hu; exact c0
  | 1, _ => cases hu; exact c1
  | 2, _ => cases hu; exact c2

/-! ### compacting, plain -/
section
variable {α : Type} [DecidableEq α]
theorem compE_snoc : ∀ (l : List α) (x y : α), compactE (l ++ [x] ++ [y]) = if x = y then compactE (l ++ [x]) else compactE (l ++ [x]) ++ [y]
  | [], x, y => by by_cases h : x = y <;> simp [compactE, h]
  | [z], x, y => by
    show compactE [z, x, y] = if x = y then compactE [z, x] else compactE [z, x] ++ [y]
    simp only [compactE]
    by_cases h1 : z = x <;> by_cases h2 : x = y <;> simp [h1, h2]
  | z :: z' :: l, x, y => by
    have ih := compE_snoc (z' :: l) x y
    simp only [List.cons_append] at ih ⊢
    rw [compactE, compactE, ih]
    by_cases h1 : z = z' <;> by_cases h2 : x = y <;> simp [h1, h2]
theorem compE_take (R : List α) (j : Nat) (h1 : 1 ≤ j) (hj : j < R.length) : compactE (R.take (j + 1)) = compactE (R.take j) ++ (if R[j] = R[j - 1]'(by omega) then [] else [R[j]]) := by
  obtain ⟨i, rfl⟩ : ∃ i, j = i + 1 := ⟨j - 1, by omega⟩
  rw [List.take_succ_eq_append_getElem hj, List.take_succ_eq_append_getElem (by omega), compE_snoc]
  show (if R[i] = R[i + 1] then _ else _) = _ ++ (if R[i + 1] = R[i] then _ else _)
  by_cases h : R[i] = R[i + 1]
  · rw [if_pos h, if_pos h.symm, List.append_nil]
  · rw [if_neg h, if_neg (fun e => h e.symm)]
theorem compE_one (R : List α) (h : 0 < R.length) : compactE (R.take 1) = R.take 1 := by
  cases R with
  | nil => simp at h
  | cons x l => simp [compactE]
theorem compE_same (R : List α) : ∀ j, 1 ≤ j → j ≤ R.length → (∀ i (h : i < R.length), 1 ≤ i → i < j → R[i] ≠ (R[i - 1]'(by omega))) → compactE (R.take j) = R.take j
  | 0, h, _, _ => by omega
  | 1, _, h, _ => compE_one R (by omega)
  | j + 2, _, h, hne => by
    rw [compE_take R (j + 1) (by omega) (by omega), compE_same R (j + 1) (by omega) (by omega) (fun i hi h1 h2 => hne i hi h1 (by omega)), if_neg (hne (j + 1) (by omega) (by omega) (by omega))]
    exact (List.take_succ_eq_append_getElem (by omega)).symm
theorem compE_len (R : List α) : ∀ j, j ≤ R.length → (compactE (R.take j)).length ≤ j
  | 0, _ => by simp [compactE]
  | 1, h => by rw [compE_one R (by omega), List.length_take]; omega
  | j + 2, h => by
    have := compE_len R (j + 1) (by omega)
    rw [compE_take R (j + 1) (by omega) (by omega), List.length_append]
    split <;> simp <;> omega
/-- What lies in the row as the second loop has come to j. -/
structure CI (R l' : List α) (L k j : Nat) : Prop where
  len : l'.length = L
  head : l'.take k = compactE (R.take j)
  tail : ∀ q, k ≤ q → l'[q]? = R[q]?
theorem CI.start {R : List α} {L k : Nat} (hL : R.length = L) (h1 : 1 ≤ k) (hk : k < L) (hne : ∀ i (h : i < R.length), 1 ≤ i → i < k → R[i] ≠ (R[i - 1]'(by omega))) (he : R[k]'(by omega) = R[k - 1]'(by omega)) : CI R R L k (k + 1) :=
  ⟨hL, by rw [compE_take R k h1 (by omega), if_pos he, List.append_nil, compE_same R k h1 (by omega) hne], fun q _ => rfl⟩
theorem CI.same {R l' : List α} {L k j : Nat} (h : CI R l' L k j) (hL : R.length = L) (h1 : 1 ≤ j) (hj : j < L) (he : R[j]'(by omega) = R[j - 1]'(by omega)) : CI R l' L k (j + 1) :=
  ⟨h.len, by rw [compE_take R j h1 (by omega), if_pos he, List.append_nil]; exact h.head, h.tail⟩
theorem take_set_lt (l : List α) (k : Nat) (x : α) (hk : k < l.length) : (l.set k x).take (k + 1) = l.take k ++ [x] := by
  rw [List.take_succ_eq_append_getElem (by simpa using hk), List.getElem_set_self, List.take_set_of_le (Nat.le_refl k)]
theorem CI.put {R l' : List α} {L k j : Nat} (h : CI R l' L k j) (hL : R.length = L) (h1 : 1 ≤ j) (hj : j < L) (hk : k < L) (he : ¬ R[j]'(by omega) = R[j - 1]'(by omega)) : CI R (l'.set k (R[j]'(by omega))) L (k + 1) (j + 1) :=
  ⟨by rw [List.length_set]; exact h.len, by rw [compE_take R j h1 (by omega), if_neg he, take_set_lt _ _ _ (by rw [h.len]; exact hk), h.head], fun q hq => by
    rw [List.getElem?_set_ne (by omega)]; exact h.tail q (by omega)⟩
end
/-! ### a term's number -/
theorem nodup_of {l : List Term} (h : l.Pairwise ltTm) : l.Nodup := h.imp fun hlt e => by rw [e] at hlt; exact List.lt_irrefl _ hlt
theorem idOf_at {l : List Term} (hr : l.Pairwise ltTm) {i : Nat} (h : i < l.length) {t : Term} (ht : l[i] = t) : idOf l t = i + 1 := by
  have hm : t ∈ l := by rw [← ht]; exact List.getElem_mem h
  have hi := List.idxOf_lt_length_of_mem hm
  unfold idOf
  rw [if_pos hm]
  have e : l[l.idxOf t] = l[i] := (List.getElem_idxOf hi).trans ht.symm
  have h1 : ¬ l.idxOf t < i := fun hlt => by
    have := List.pairwise_iff_getElem.1 hr _ _ hi h hlt
    rw [e] at this
    exact List.lt_irrefl _ this
  have h2 : ¬ i < l.idxOf t := fun hlt => by
    have := List.pairwise_iff_getElem.1 hr _ _ h hi hlt
    rw [e] at this
    exact List.lt_irrefl _ this
  omega
/-- Where a search ends. -/
def Ends (l : List Term) (t : Term) (i : Nat) : Prop := i ≤ l.length ∧ (∀ j (h : j < l.length), j < i → ltTm l[j] t) ∧ ∀ j (h : j < l.length), i ≤ j → ¬ ltTm l[j] t
theorem Ends.mem {l : List Term} {t : Term} {i : Nat} (h : Ends l t i) (hr : l.Pairwise ltTm) (hm : t ∈ l) : ∃ h : i < l.length, l[i] = t := by
  obtain ⟨q, hq, hqt⟩ := List.mem_iff_getElem.1 hm
  obtain ⟨h1, h2, h3⟩ := h
  have hiq : i ≤ q := by
    by_cases hlt : q < i
    · have := h2 q hq hlt
      rw [hqt] at this
      exact absurd this (List.lt_irrefl _)
    · omega
  have hi : i < l.length := by omega
  refine ⟨hi, ?_⟩
  by_cases e : i = q
  · subst e; exact hqt
  · have := List.pairwise_iff_getElem.1 hr i q hi hq (by omega)
    rw [hqt] at this
    exact absurd this (h3 i hi (Nat.le_refl _))
theorem Ends.idOf {l : List Term} {t : Term} {i : Nat} (h : Ends l t i) (hr : l.Pairwise ltTm) (hne : ∀ h : i < l.length, l[i] ≠ t) : idOf l t = 0 := by
  unfold OrdG.idOf
  rw [if_neg (fun hm => by obtain ⟨h1, h2⟩ := h.mem hr hm; exact hne h1 h2)]
end Go.Proofs.YtnplommdgfgboaaGreatDoor.TermW
/-
  slices.SortFunc of terms by term.Cmp.
-/
set_option linter.unusedVariables false
set_option linter.unusedSimpArgs false
namespace Go.Proofs.YtnplommdgfgboaaGreatDoor.SortT
open Go Go.RowKit Go.Sort Go.Shelf Go.Lib Go.Proofs Go.Proofs.YtnplommdgfgboaaGreatDoor.B Go.Proofs.YtnplommdgfgboaaGreatDoor.Rd Go.Proofs.YtnplommdgfgboaaGreatDoor.TermPure Go.Proofs.YtnplommdgfgboaaGreatDoor.LinesPure Go.Proofs.YtnplommdgfgboaaGreatDoor.Tri Go.Proofs.YtnplommdgfgboaaGreatDoor.SortP Go.Proofs.YtnplommdgfgboaaGreatDoor.OrdG Go.Proofs.YtnplommdgfgboaaGreatDoor.SortRow

theorem chunks {α : Type} {enc : α → List Value} {k : Nat} (hk : ∀ x, (enc x).length = k) (hp : 0 < k) {cells : List Value} {l : List α} (hl : cells.length = l.length * k) (h : ∀ i x, l[i]? = some x → (cells.drop (i * k)).take k = enc x) : cells = l.flatMap enc := by
  apply List.ext_getElem?
  intro t
  by_cases ht : t < l.length * k
  · have h1 : t / k < l.length := Nat.div_lt_of_lt_mul (by rwa [Nat.mul_comm])
    have h2 : t % k < k := Nat.mod_lt _ hp
    have h3 := flatMap_get hk l (t / k) (t % k) l[t / k] (List.getElem?_eq_getElem h1) h2
    have h4 := h (t / k) l[t / k] (List.getElem?_eq_getElem h1)
    rw [← h4, List.getElem?_take, if_pos h2, List.getElem?_drop, Nat.mul_comm, Nat.div_add_mod] at h3
    exact h3.symm
  · rw [List.getElem?_eq_none (by omega), List.getElem?_eq_none (by rw [flatMap_len hk]; omega)]
theorem chunk_of {α : Type} {enc : α → List Value} {k : Nat} (hk : ∀ x, (enc x).length = k) {l : List α} {i : Nat} {x : α} (hx : l[i]? = some x) : ((l.flatMap enc).drop (i * k)).take k = enc x := by
  apply List.ext_getElem?
  intro j
  rw [List.getElem?_take]
  by_cases hj : j < k
  · rw [if_pos hj, List.getElem?_drop, flatMap_get hk l i j x hx hj]
  · rw [if_neg hj, List.getElem?_eq_none (by rw [hk]; omega)]
/-- A kind whose values are their cells: what a sort leaves of a row. -/
theorem sorted_own {β : Type} [DecidableEq β] {enc : β → List Value} {fits S : β → Prop} {k : Nat} (hk : ∀ x, (enc x).length = k) (hp : 0 < k) (h1 : ∀ x, ∀ u ∈ enc x, u.oneCell' = true) (z : β) (hz : S z)
    {P : Program} {ρ : Ren} {e : TypeId} {f : FuncId} {cf : β → β → Int} (eg : ∀ args w, (callFunc f args).run P w = .ok (.enter f args) w) (aE : ∀ w, (isAgg (ρ.t 24)).run P w = .ok true w) (zE : ∀ w, (Go.sizeOf (ρ.t 24)).run P w = .ok k w)
    (L : SlLaysF0.n6 P ρ) (hO : SWO fun x y : { t : β // S t } => decide (cf x.1 y.1 < 0)) (hc : ∀ (x y : β) (w : World), S x → S y → Calls P f #[.agg (enc x).toArray, .agg (enc y).toArray] w fun e w' => e = .returned (.int .i64 (cf x y)) ∧ Below w.heap.size w w')
    {l : List β} (hs : ∀ t ∈ l, S t) {g cap base : Nat} {ok : Nat → Prop} {w : World} (ho : (held k hp enc fits hk h1).own e w base ok (.slice (some ⟨g, 0, none⟩) l.length cap) l) :
    Calls P (ρ.f 6) #[.slice (some ⟨g, 0, none⟩) l.length cap, .func (.func f) #[] #[]] w fun en w' => en = .returned (.tuple #[]) ∧ ∃ l' : List β, l'.Perm l ∧ l'.Pairwise (fun a b => ¬ cf b a < 0) ∧ (held k hp enc fits hk h1).own e w' base ok (.slice (some ⟨g, 0, none⟩) l'.length cap) l' ∧ w.grownBy w' (some g) := by
  letI : Inhabited { t : β // S t } := ⟨⟨z, hz⟩⟩
  obtain ⟨hlen, cells, hr, hM⟩ := ho
  have hcells : cells = l.flatMap enc := chunks hk hp (by have := hr.1; exact this) (fun i x hx => (hM i x hx).1)
  subst hcells
  have hfit : ∀ t ∈ l, fits t := fun t ht => by
    obtain ⟨i, hi, rfl⟩ := List.mem_iff_getElem.1 ht
    exact (hM i _ (List.getElem?_eq_getElem hi)).2
  obtain ⟨ls, hls⟩ : ∃ ls : List { t : β // S t }, ls.map (·.1) = l := ⟨l.attachWith S hs, by simp⟩
  have hll : ls.length = l.length := by rw [← hls]; simp
  have hfm : ls.flatMap (fun x => enc x.1) = l.flatMap enc := by rw [← hls, List.flatMap_map]
  have hk' : ∀ x : { t : β // S t }, ((fun x : { t : β // S t } => enc x.1) x).length = k := fun x => hk x.1
  have hr' : w.ownsRow base e k (.slice (some ⟨g, 0, none⟩) ls.length cap) ls.length (ls.flatMap fun x => enc x.1) := by rw [hll, hfm]; exact hr
  have hlt : g < w.heap.size := by
    rcases hr.2 with ⟨h, _⟩ | ⟨g', cap', cur, h, hg, hh, _⟩
    · cases h
    · cases h
      exact (Array.getElem?_eq_some_iff.1 hh).1
  have key := AnyQ.slices_SortFunc L k aE zE (fun x : { t : β // S t } => enc x.1) hk' (fun x u hu => h1 x.1 u hu) (fun x y => cf x.1 y.1) hO f #[] g 0 cap ls.toArray w eg
    (cmp_lays (fun x y w => hc x.1 y.1 w x.2 y.2) g 0 _ w) (holds_of hk' hp hr') hlt (by simp; omega)
  have hsz : ls.toArray.size = l.length := by simp [hll]
  rw [hsz] at key
  refine key.mono ?_
  rintro en w' ⟨rfl, d', n, os, hperm, hsort, rfl⟩
  obtain ⟨p1, p2, p3⟩ := hperm
  have hd : d'.size = ls.length := by rw [p1]; simp
  obtain ⟨q1, q2⟩ := row_sorted (α := { t : β // S t }) hk' hp hr' d' hd n os
  have hper : d'.toList.Perm ls := by
    have e1 : (d'.extract 0 l.length) = d' := by rw [← hll, ← hd]; simp
    have e2 : (ls.toArray.extract 0 l.length) = ls.toArray := by rw [← hll]; simp
    rw [e1, e2] at p3
    simpa using p3
  have hlen' : (d'.toList.map (·.1)).length = l.length := by simp [hd, hll]
  refine ⟨rfl, d'.toList.map (·.1), ?_, ?_, ⟨by rw [hlen']; exact hlen, _, ?_, fun i x hx => ⟨chunk_of hk hx, ?_⟩⟩, q2⟩
  · rw [← hls]
    exact hper.map _
  · rw [List.pairwise_map, List.pairwise_iff_getElem]
    intro i j hi hj hij hlt
    have := hsort i j (Nat.zero_le _) hij (by have : j < d'.size := by simpa using hj
                                              omega)
    unfold ltOf at this
    rw [decide_eq_false_iff_not] at this
    have hi' : i < d'.size := by simpa using hi
    have hj' : j < d'.size := by simpa using hj
    rw [getElem!_pos d' i hi', getElem!_pos d' j hj'] at this
    exact this hlt
  · have : (d'.toList.map (·.1)).flatMap enc = d'.toList.flatMap (fun x => enc x.1) := by rw [List.flatMap_map]
    rw [this, hlen', ← hll]
    exact q1
  · have hm : x ∈ d'.toList.map (·.1) := List.mem_of_getElem? hx
    have : x ∈ l := by
      rw [← hls]
      exact (hper.map (·.1)).mem_iff.1 hm
    exact hfit x this
end Go.Proofs.YtnplommdgfgboaaGreatDoor.SortT
/-
  What a store, a ring, a wave are in memory.
-/
set_option linter.unusedVariables false
set_option linter.unusedSimpArgs false
namespace Go.Proofs.YtnplommdgfgboaaGreatDoor.StoreW
open Go.RowKit Go.Lib Go.Proofs.YtnplommdgfgboaaGreatDoor.B Go.Proofs.YtnplommdgfgboaaGreatDoor.Rd Go.Proofs.YtnplommdgfgboaaGreatDoor.TermPure Go.Proofs.YtnplommdgfgboaaGreatDoor.LinesPure Go.Proofs.YtnplommdgfgboaaGreatDoor.Tri Go.Proofs.YtnplommdgfgboaaGreatDoor.OrdG

def idsL (x : Ids) : List Value := [.int .i64 (x.a : Nat), .int .i64 (x.b : Nat), .int .i64 (x.c : Nat)]
def FitsI (x : Ids) : Prop := x.a ≤ 140737488355328 ∧ x.b ≤ 140737488355328 ∧ x.c ≤ 140737488355328
def idsK : Kd Ids := held 3 (by decide) idsL FitsI (fun _ => rfl) (fun t u hu => by
  simp [idsL] at hu
  rcases hu with rfl | rfl | rfl <;> rfl)
def natZ (l : List Nat) : List Int := l.map fun (n : Nat) => (n : Int)
theorem natZ_len (l : List Nat) : (natZ l).length = l.length := by simp [natZ]
/-- Of a triple's numbers one. -/
def at3 (x : Ids) : Nat → Nat
  | 0 => x.a
  | 1 => x.b
  | _ => x.c
theorem own_any {α : Type} {d : Kd α} {e : TypeId} {w : World} {base : Nat} {ok ok' : Nat → Prop} {v : Value} {xs : List α} (hany : ∀ (w : World) (ok ok' : Nat → Prop) (x : α) (cs : List Value), d.M w ok x cs → d.M w ok' x cs) (h : d.own e w base ok v xs) : d.own e w base ok' v xs := by
  obtain ⟨h0, cells, h1, h2⟩ := h
  exact ⟨h0, cells, h1, fun i x hx => hany _ _ _ _ _ (h2 i x hx)⟩
/-- A row of one's own, read: it lies from base on. -/
theorem own_from {α : Type} {d : Kd α} {e : TypeId} {w : World} {base : Nat} {ok : Nat → Prop} {v : Value} {xs : List α} (hany : ∀ (w : World) (ok ok' : Nat → Prop) (x : α) (cs : List Value), d.M w ok x cs → d.M w ok' x cs) (h : d.own e w base ok v xs) : d.sl.M w (fun k => base ≤ k) xs [v] :=
  Kd.own_sl (ok := fun k => base ≤ k) (own_any hany h) (fun k hk => hk) (fun k hk => hk)
/-- A wave: block g, all of it in such blocks. -/
structure WaveAt (w : World) (ok : Nat → Prop) (g : Nat) (l : List Nat) : Prop where
  lt : ok g
  row : ∃ A c, w.cell? ⟨g, 0, none⟩ = some (.slice A l.length c) ∧ intK.sl.M w ok (natZ l) [.slice A l.length c]
/-- A ring. -/
structure RingAt (w : World) (ok : Nat → Prop) (g : Nat) (I : List Ids) : Prop where
  lt : ok g
  cols : ∀ j, j < 3 → ∃ h, w.cell? ⟨g, j, none⟩ = some (.pointer (some ⟨h, 0, none⟩)) ∧ WaveAt w ok h (I.map fun x => at3 x j)
  row : ∃ A c, w.cell? ⟨g, 3, none⟩ = some (.slice A I.length c) ∧ idsK.sl.M w ok I [.slice A I.length c]
/-- A store. -/
structure StoreAt (w : World) (ok : Nat → Prop) (g : Nat) (T : List Triple) : Prop where
  lt : ok g
  tri : ∃ A c, w.cell? ⟨g, 0, none⟩ = some (.slice A T.length c) ∧ triK.sl.M w ok T [.slice A T.length c]
  terms : ∃ A c, w.cell? ⟨g, 1, none⟩ = some (.slice A (termsT T).length c) ∧ termK.sl.M w ok (termsT T) [.slice A (termsT T).length c]
  ring : ∃ h, w.cell? ⟨g, 2, none⟩ = some (.pointer (some ⟨h, 0, none⟩)) ∧ RingAt w ok h (idsT T)
section
variable {w w1 : World} {ok ok' : Nat → Prop} {g : Nat}
theorem cell_move (hm : ∀ k, ok k → k < w.heap.size → w1.heap[k]? = w.heap[k]?) (hB : ok g) {o : Nat} {v : Value} (h : w.cell? ⟨g, o, none⟩ = some v) : w1.cell? ⟨g, o, none⟩ = some v :=
  (World.cell?_of_block (a := ⟨g, o, none⟩) (hm g hB (World.block_lt_of_cell? w _ h))).trans h
theorem WaveAt.hp {l : List Nat} (h : WaveAt w ok g l) : g < w.heap.size := by
  obtain ⟨_, A, c, h3, _⟩ := h
  exact World.block_lt_of_cell? w _ h3
theorem RingAt.hp {I : List Ids} (h : RingAt w ok g I) : g < w.heap.size := by
  obtain ⟨_, _, A, c, h3, _⟩ := h
  exact World.block_lt_of_cell? w _ h3
theorem StoreAt.hp {T : List Triple} (h : StoreAt w ok g T) : g < w.heap.size := by
  obtain ⟨_, ⟨A, c, h3, _⟩, _⟩ := h
  exact World.block_lt_of_cell? w _ h3
theorem WaveAt.move {l : List Nat} (h : WaveAt w ok g l) (hm : ∀ k, ok k → k < w.heap.size → w1.heap[k]? = w.heap[k]?) : WaveAt w1 ok g l := by
  obtain ⟨h1, A, c, h3, h4⟩ := h
  exact ⟨h1, A, c, cell_move hm h1 h3, intK.sl.move hm h4⟩
theorem RingAt.move {I : List Ids} (h : RingAt w ok g I) (hm : ∀ k, ok k → k < w.heap.size → w1.heap[k]? = w.heap[k]?) : RingAt w1 ok g I := by
  obtain ⟨h1, hc, A, c, h3, h4⟩ := h
  exact ⟨h1, fun j hj => by obtain ⟨p, hp, hpw⟩ := hc j hj; exact ⟨p, cell_move hm h1 hp, hpw.move hm⟩, A, c, cell_move hm h1 h3, idsK.sl.move hm h4⟩
theorem StoreAt.move {T : List Triple} (h : StoreAt w ok g T) (hm : ∀ k, ok k → k < w.heap.size → w1.heap[k]? = w.heap[k]?) : StoreAt w1 ok g T := by
  obtain ⟨h1, ⟨A, c, h3, h4⟩, ⟨A', c', h3', h4'⟩, r, hr, hrr⟩ := h
  exact ⟨h1, ⟨A, c, cell_move hm h1 h3, triK.sl.move hm h4⟩, ⟨A', c', cell_move hm h1 h3', termK.sl.move hm h4'⟩, r, cell_move hm h1 hr, hrr.move hm⟩
theorem StoreAt.below {T : List Triple} (h : StoreAt w ok g T) (hb : Below w.heap.size w w1) : StoreAt w1 ok g T := h.move (fun k _ hk => hb.block k hk)
theorem RingAt.below {I : List Ids} (h : RingAt w ok g I) (hb : Below w.heap.size w w1) : RingAt w1 ok g I := h.move (fun k _ hk => hb.block k hk)
theorem WaveAt.below {l : List Nat} (h : WaveAt w ok g l) (hb : Below w.heap.size w w1) : WaveAt w1 ok g l := h.move (fun k _ hk => hb.block k hk)
theorem WaveAt.mono {l : List Nat} (h : WaveAt w ok g l) (hk : ∀ k, ok k → k < w.heap.size → ok' k) : WaveAt w ok' g l := by
  have hg := h.hp
  obtain ⟨h1, A, c, h3, h4⟩ := h
  exact ⟨hk g h1 hg, A, c, h3, intK.sl.mono hk h4⟩
theorem RingAt.mono {I : List Ids} (h : RingAt w ok g I) (hk : ∀ k, ok k → k < w.heap.size → ok' k) : RingAt w ok' g I := by
  have hg := h.hp
  obtain ⟨h1, hc, A, c, h3, h4⟩ := h
  exact ⟨hk g h1 hg, fun j hj => by obtain ⟨p, hp, hpw⟩ := hc j hj; exact ⟨p, hp, hpw.mono hk⟩, A, c, h3, idsK.sl.mono hk h4⟩
theorem StoreAt.mono {T : List Triple} (h : StoreAt w ok g T) (hk : ∀ k, ok k → k < w.heap.size → ok' k) : StoreAt w ok' g T := by
  have hg := h.hp
  obtain ⟨h1, ⟨A, c, h3, h4⟩, ⟨A', c', h3', h4'⟩, r, hr, hrr⟩ := h
  exact ⟨hk g h1 hg, ⟨A, c, h3, triK.sl.mono hk h4⟩, ⟨A', c', h3', termK.sl.mono hk h4'⟩, r, hr, hrr.mono hk⟩
end
end Go.Proofs.YtnplommdgfgboaaGreatDoor.StoreW
/-
  slices.BinarySearchFunc of terms by term.Cmp, store.place, walked.
-/
set_option linter.unusedVariables false
set_option linter.unusedSimpArgs false
namespace Go.Proofs.YtnplommdgfgboaaGreatDoor.Search
open Go.RowKit Go.Lib Go.Proofs.YtnplommdgfgboaaGreatDoor.B Go.Proofs.YtnplommdgfgboaaGreatDoor.Rd Go.Proofs.YtnplommdgfgboaaGreatDoor.TermPure Go.Proofs.YtnplommdgfgboaaGreatDoor.LinesPure Go.Proofs.YtnplommdgfgboaaGreatDoor.Tri Go.Proofs.YtnplommdgfgboaaGreatDoor.SortP Go.Proofs.YtnplommdgfgboaaGreatDoor.OrdG Go.Proofs.YtnplommdgfgboaaGreatDoor.TermW Go.Proofs.YtnplommdgfgboaaGreatDoor.Cmp

def cmpV : Value := .func (.func 89) #[] #[]
theorem term_cells {w : World} {ok : Nat → Prop} {l : List Term} {A : Option Addr} {c : Nat} (h : termK.sl.M w ok l [.slice A l.length c]) (hp : 0 < l.length) :
    ∃ b off, A = some ⟨b, off, none⟩ ∧ ok b ∧ b < w.heap.size ∧ ∀ i (hi : i < l.length), C3 w b (off + i * 3) l[i] := by
  obtain ⟨A', c', he, hlc, _, hA, hrow⟩ := h
  obtain ⟨rfl, rfl⟩ : A = A' ∧ c = c' := by simpa using he
  obtain ⟨b, off, hAe, hok, hb, hcells⟩ := Kd.row_addr hrow hp
  refine ⟨b, off, hAe, hok, hb, fun i hi => ?_⟩
  obtain ⟨cs, ⟨hcs, _⟩, hcell⟩ := hcells i hi
  subst hcs
  exact C3.of hcell
theorem C3.new (w : World) (t : Term) : C3 (w.alloc (.cells (termL t).toArray 24)) w.heap.size 0 t := by
  have h := Tc.TC.new w t
  exact ⟨h.c0, h.c1, h.c2⟩
/-- Where the search ends, and whether it says that it found. -/
def posOf (R : List Term) (t : Term) : Nat := (R.takeWhile fun x => decide (ltTm x t)).length
def foundAt (R : List Term) (t : Term) : Bool := match R[posOf R t]? with
  | some x => decide (cmpTm x t = 0)
  | none => false
theorem ends_pos : ∀ {R : List Term} {t : Term} {i : Nat}, TermW.Ends R t i → posOf R t = i
  | [], t, i, ⟨h, _, _⟩ => by simp at h; simp [posOf, h]
  | x :: R, t, 0, ⟨_, _, h⟩ => by
    have := h 0 (by simp) (Nat.le_refl _)
    simp at this
    simp [posOf, List.takeWhile_cons, this]
  | x :: R, t, i + 1, ⟨h1, h2, h3⟩ => by
    have hx := h2 0 (by simp) (by omega)
    simp at hx
    have ih := ends_pos (R := R) (t := t) (i := i) ⟨by simpa using h1, fun j h hj => by have := h2 (j + 1) (by simpa using h) (by omega); simpa using this, fun j h hj => by have := h3 (j + 1) (by simpa using h) (by omega); simpa using this⟩
    unfold posOf at *
    simp [List.takeWhile_cons, hx, ih]
theorem found_in {R : List Term} {t : Term} {i : Nat} (h : TermW.Ends R t i) (hi : i < R.length) : foundAt R t = decide (cmpTm R[i] t = 0) := by
  unfold foundAt
  rw [ends_pos h, List.getElem?_eq_getElem hi]
theorem found_out {R : List Term} {t : Term} {i : Nat} (h : TermW.Ends R t i) (hi : ¬ i < R.length) : foundAt R t = false := by
  unfold foundAt
  rw [ends_pos h, List.getElem?_eq_none (by omega)]
theorem ends_at : ∀ {R : List Term} (t : Term), R.Pairwise ltTm → TermW.Ends R t (posOf R t)
  | [], t, _ => ⟨by simp [posOf], fun j h => by simp at h, fun j h => by simp at h⟩
  | x :: R, t, hp => by
    have hp' := List.pairwise_cons.1 hp
    obtain ⟨h1, h2, h3⟩ := ends_at t hp'.2
    by_cases hx : ltTm x t
    · have e : posOf (x :: R) t = posOf R t + 1 := by simp [posOf, List.takeWhile_cons, hx]
      rw [e]
      refine ⟨by simpa using h1, fun j h hj => ?_, fun j h hj => ?_⟩
      · cases j with
        | zero => exact hx
        | succ j => simpa using h2 j (by simpa using h) (by omega)
      · cases j with
        | zero => omega
        | succ j => simpa using h3 j (by simpa using h) (by omega)
    · have e : posOf (x :: R) t = 0 := by simp [posOf, List.takeWhile_cons, hx]
      rw [e]
      refine ⟨by simp, fun j h hj => by omega, fun j h hj hlt => ?_⟩
      cases j with
      | zero => exact hx hlt
      | succ j =>
        simp at hlt
        exact hx (List.lt_trans (hp'.1 _ (List.getElem_mem (by simpa using h))) hlt)
set_option maxHeartbeats 12800000 in
set_option maxRecDepth 100000 in
theorem search_calls (R : List Term) (t : Term) (hR : R.Pairwise ltTm) (hs : ∀ x ∈ R, SmallM x) (hst : SmallM t) (A : Option Addr) (c : Nat) (w : World) (HL : termK.sl.M w (fun k => k < w.heap.size) R [.slice A R.length c]) (hb : R.length ≤ 1000000) :
    Calls Tryz.prog 95 #[.slice A R.length c, Ref5.termV t, cmpV] w fun e w' => e = .returned (.tuple #[.int .i64 (posOf R t : Nat), .bool (foundAt R t)]) ∧ Below w.heap.size w w' := by
  have HRow := Lib.hid (fun hp => term_cells HL hp)
  have HS := Lib.hid hs
  have HSt := Lib.hid hst
  have HPw := Lib.hid hR
  have HC0 := Lib.hid (C3.new w t)
  unfold cmpV Ref5.termV
  clear HL hs hst hR
  go_enter Tryz.func95, Tryz.ntmps95
  go_wp2
  go_loopw [9, 10] (fun vi vj wr => ∃ i j : Nat, vi = .int .i64 i ∧ vj = .int .i64 j ∧ i ≤ j ∧ j ≤ R.length ∧ Hid ((∀ q (h : q < R.length), q < i → ltTm R[q] t) ∧ (∀ q (h : q < R.length), j ≤ q → ¬ ltTm R[q] t) ∧ Below w.heap.size w wr ∧ C3 wr w.heap.size 0 t)) (fun vi vj _ => (intOf vj).toNat - (intOf vi).toNat)
  case atStart => exact ⟨0, R.length, rfl, rfl, by omega, by omega, Lib.hid ⟨fun q h h0 => by omega, fun q h h0 => by omega, bel_alloc (Below.refl _ _) _, HC0.out⟩⟩
  case round =>
    obtain ⟨i, j, rfl, rfl, hij, hjl, HI⟩ := hrel
    clear HC0
    by_cases hlt : i < j
    · have hd : decide (i < j) = true := decide_eq_true hlt
      obtain ⟨h, hh⟩ : ∃ h, h = (i + j) / 2 := ⟨_, rfl⟩
      have hq : ((i : Int) + (j : Int)) / 2 = (h : Int) := by omega
      have hih : i ≤ h := by omega
      have hhj : h < j := by omega
      clear hh
      have hhl : h < R.length := by omega
      have hhb : (h : Int) < (R.length : Int) := by omega
      obtain ⟨b, off, rfl, _, hbs, hcells⟩ := HRow.out (by omega)
      have hcx := (hcells h hhl).below HI.out.2.2.1
      have hcy := HI.out.2.2.2
      obtain ⟨x, hx⟩ : ∃ x, x = R[h] := ⟨_, rfl⟩
      rw [← hx] at hcx
      have HCC := Lib.hid (fun w => termCmp_calls x t (by rw [hx]; exact HS.out _ (List.getElem_mem hhl)) HSt.out w)
      obtain ⟨v, hv⟩ : ∃ v, v = cmpTm x t := ⟨_, rfl⟩
      rw [← hv] at HCC
      have HLo : Hid (v < 0 → ∀ q (hq : q < R.length), q < h + 1 → ltTm R[q] t) := Lib.hid (fun hneg q hq hqh => by
        have hxt : ltTm R[h] t := by rw [← hx]; exact (cmpTm_lt x t).1 (by rw [← hv]; exact hneg)
        by_cases e : q = h
        · subst e; exact hxt
        · exact List.lt_trans (List.pairwise_iff_getElem.1 HPw.out q h hq hhl (by omega)) hxt)
      have HHi : Hid (¬ v < 0 → ∀ q (hq : q < R.length), h ≤ q → ¬ ltTm R[q] t) := Lib.hid (fun hneg q hq hqh hlt2 => by
        have hxt : ¬ ltTm R[h] t := by rw [← hx]; exact fun hl => hneg (by rw [hv]; exact (cmpTm_lt x t).2 hl)
        by_cases e : q = h
        · subst e; exact hxt hlt2
        · exact hxt (List.lt_trans (List.pairwise_iff_getElem.1 HPw.out h q hhl hq (by omega)) hlt2))
      have HIW := Lib.hid HI.out
      clear hcells hx hv HI
      by_cases hv0 : v < 0
      · have hvd : decide (v < 0) = true := decide_eq_true hv0
        have HNx := Lib.hid (HLo.out hv0)
        clear HLo HHi hv0
        obtain ⟨xk, xt, xe⟩ := x
        obtain ⟨yk, yt, ye⟩ := t
        have x0 := fun p => (hcx.bel p).c0
        have x1 := fun p => (hcx.bel p).c1
        have x2 := fun p => (hcx.bel p).c2
        have y0 := fun p => (hcy.bel p).c0
        have y1 := fun p => (hcy.bel p).c1
        have y2 := fun p => (hcy.bel p).c2
        dsimp only at x0 x1 x2 y0 y1 y2
        unfold Ref5.termV at HCC
        dsimp only at HCC
        go_upto_region 5 with fail
        refine QT.region_all (by kernel_rfl) (by kernel_rfl) ?_
        iterate 6 (go_big_quiet_step (fail))
        go_big_quiet_step (exact QT.Bel.call _ (HCC.out _))
        iterate 1 (go_big_quiet_step (fail))
        refine wpQuiet_nil ?_
        intro w2 hw'
        obtain ⟨⟨_, hb2⟩, rfl⟩ := hw'
        have HB2 := Lib.hid (bel_step HIW.out.2.2.1 hb2)
        have HY2 := Lib.hid (hcy.below hb2)
        clear hb2 x0 x1 x2 y0 y1 y2 hcx hcy HCC
        go_wp2
        go_roundw
        case rel => exact ⟨h + 1, j, by go_num, rfl, by omega, by omega, Lib.hid ⟨HNx.out, HIW.out.2.1, HB2.out, HY2.out⟩⟩
        case measure => simp [intOf]; omega
      · have hvd : decide (v < 0) = false := decide_eq_false hv0
        have HNx := Lib.hid (HHi.out hv0)
        clear HLo HHi hv0
        obtain ⟨xk, xt, xe⟩ := x
        obtain ⟨yk, yt, ye⟩ := t
        have x0 := fun p => (hcx.bel p).c0
        have x1 := fun p => (hcx.bel p).c1
        have x2 := fun p => (hcx.bel p).c2
        have y0 := fun p => (hcy.bel p).c0
        have y1 := fun p => (hcy.bel p).c1
        have y2 := fun p => (hcy.bel p).c2
        dsimp only at x0 x1 x2 y0 y1 y2
        unfold Ref5.termV at HCC
        dsimp only at HCC
        go_upto_region 5 with fail
        refine QT.region_all (by kernel_rfl) (by kernel_rfl) ?_
        iterate 6 (go_big_quiet_step (fail))
        go_big_quiet_step (exact QT.Bel.call _ (HCC.out _))
        iterate 1 (go_big_quiet_step (fail))
        refine wpQuiet_nil ?_
        intro w2 hw'
        obtain ⟨⟨_, hb2⟩, rfl⟩ := hw'
        have HB2 := Lib.hid (bel_step HIW.out.2.2.1 hb2)
        have HY2 := Lib.hid (hcy.below hb2)
        clear hb2 x0 x1 x2 y0 y1 y2 hcx hcy HCC
        go_wp2
        go_roundw
        case rel => exact ⟨i, h, rfl, rfl, by omega, by omega, Lib.hid ⟨HIW.out.1, HNx.out, HB2.out, HY2.out⟩⟩
        case measure => simp [intOf]; omega
    · have hd : decide (i < j) = false := decide_eq_false hlt
      obtain rfl : i = j := by omega
      have HEnds : Hid (TermW.Ends R t i) := Lib.hid ⟨hjl, HI.out.1, HI.out.2.1⟩
      by_cases hin : i < R.length
      · have hd2 : decide (i < R.length) = true := decide_eq_true hin
        have hib : (i : Int) < (R.length : Int) := by omega
        obtain ⟨b, off, rfl, _, hbs, hcells⟩ := HRow.out (by omega)
        have hcx := (hcells i hin).below HI.out.2.2.1
        have hcy := HI.out.2.2.2
        obtain ⟨x, hx⟩ : ∃ x, x = R[i] := ⟨_, rfl⟩
        rw [← hx] at hcx
        have HCC := Lib.hid (fun w => termCmp_calls x t (by rw [hx]; exact HS.out _ (List.getElem_mem hin)) HSt.out w)
        obtain ⟨v, hv⟩ : ∃ v, v = cmpTm x t := ⟨_, rfl⟩
        rw [← hv] at HCC
        have HP : Hid (posOf R t = i ∧ foundAt R t = decide (v = 0)) := Lib.hid ⟨ends_pos HEnds.out, by rw [found_in HEnds.out hin, hv, hx]⟩
        have HIW := Lib.hid HI.out.2.2.1
        clear hcells hx hv HI
        obtain ⟨xk, xt, xe⟩ := x
        obtain ⟨yk, yt, ye⟩ := t
        have x0 := fun p => (hcx.bel p).c0
        have x1 := fun p => (hcx.bel p).c1
        have x2 := fun p => (hcx.bel p).c2
        have y0 := fun p => (hcy.bel p).c0
        have y1 := fun p => (hcy.bel p).c1
        have y2 := fun p => (hcy.bel p).c2
        dsimp only at x0 x1 x2 y0 y1 y2
        unfold Ref5.termV at HCC
        dsimp only at HCC
        go_upto_region 8 with fail
        refine QT.region_all (by kernel_rfl) (by kernel_rfl) ?_
        iterate 11 (go_big_quiet_step (fail))
        go_big_quiet_step (exact QT.Bel.call _ (HCC.out _))
        iterate 4 (go_big_quiet_step (fail))
        refine wpQuiet_nil ?_
        intro w2 hw'
        obtain ⟨⟨_, hb2⟩, rfl⟩ := hw'
        have HB2 := Lib.hid (bel_step HIW.out hb2)
        clear hb2 x0 x1 x2 y0 y1 y2 hcx hcy HCC
        go_wp2
        go_ret2
        exact ⟨by rw [HP.out.1, HP.out.2]; rfl, HB2.out⟩
      · have hd2 : decide (i < R.length) = false := decide_eq_false hin
        have HB := Lib.hid HI.out.2.2.1
        have HP : Hid (posOf R t = i ∧ foundAt R t = false) := Lib.hid ⟨ends_pos HEnds.out, found_out HEnds.out hin⟩
        clear HI
        go_upto_region 8 with fail
        go_quiet (fail)
        go_wp2
        go_ret2
        exact ⟨by rw [HP.out.1, HP.out.2]; rfl, ⟨HB.out.os, HB.out.tape, HB.out.output, HB.out.size, HB.out.block⟩⟩
set_option maxHeartbeats 3200000 in
set_option maxRecDepth 100000 in
theorem place_calls (R : List Term) (t : Term) (hR : R.Pairwise ltTm) (hs : ∀ x ∈ R, SmallM x) (hst : SmallM t) (A : Option Addr) (c : Nat) (w : World) (HL : termK.sl.M w (fun k => k < w.heap.size) R [.slice A R.length c]) (hb : R.length ≤ 1000000) :
    Calls Tryz.prog 47 #[.slice A R.length c, Ref5.termV t] w fun e w' => e = .returned (.tuple #[.int .i64 (posOf R t : Nat), .bool (foundAt R t)]) ∧ Below w.heap.size w w' := by
  have b0 : Below w.heap.size w (w.alloc (.cells (termL t).toArray 24)) := bel_alloc (Below.refl _ _) _
  have HC := Lib.hid (search_calls R t hR hs hst A c (w.alloc (.cells (termL t).toArray 24)) (Kd.M_bound (Kd.M_below HL b0)) hb)
  have HB0 := Lib.hid b0
  obtain ⟨y0, y1, y2⟩ := C3.new w t
  simp only [Nat.zero_add] at y1 y2
  clear HL hs hst hR b0
  obtain ⟨yk, yt, ye⟩ := t
  dsimp only at y0 y1 y2
  unfold cmpV termL Ref5.termV at *
  dsimp only at *
  generalize posOf R ⟨yk, yt, ye⟩ = i at *
  generalize foundAt R ⟨yk, yt, ye⟩ = b at *
  go_enter Tryz.func47, Tryz.ntmps47
  go_wp2_with fail
  refine HC.out.mono ?_
  rintro e w2 ⟨rfl, hb2⟩
  have HB2 := Lib.hid (bel_step HB0.out hb2)
  clear hb2 HC
  go_wp2
  go_ret2
  exact ⟨rfl, HB2.out⟩
/-- (*Store).ID. -/
theorem id_pure {R : List Term} {t : Term} (hR : R.Pairwise ltTm) : (foundAt R t = false → idOf R t = 0) ∧ (foundAt R t = true → ∃ h : posOf R t < R.length, idOf R t = if R[posOf R t] = t then posOf R t + 1 else 0) := by
  have he := ends_at t hR
  constructor
  · intro h
    refine he.idOf hR (fun hi e => ?_)
    rw [found_in he hi, decide_eq_false_iff_not] at h
    exact h (by rw [e]; exact (cmpL_zero _ _).2 rfl)
  · intro h
    by_cases hi : posOf R t < R.length
    · refine ⟨hi, ?_⟩
      by_cases e : R[posOf R t] = t
      · rw [if_pos e, idOf_at hR hi e]
      · rw [if_neg e]
        exact he.idOf hR (fun _ => e)
    · rw [found_out he hi] at h
      cases h
end Go.Proofs.YtnplommdgfgboaaGreatDoor.Search
/-
  pack.Width, pack.Pack, walked.
-/
set_option linter.unusedVariables false
set_option linter.unusedSimpArgs false
namespace Go.Proofs.YtnplommdgfgboaaGreatDoor.PackW
open Go.RowKit Go.Lib Go.Proofs.YtnplommdgfgboaaGreatDoor.B Go.Proofs.YtnplommdgfgboaaGreatDoor.Rd Go.Proofs.YtnplommdgfgboaaGreatDoor.StoreW

def TT : Nat → Prop := fun _ => True
def bitAt (n k : Nat) : Nat := n / 2 ^ k % 2
def orAt (b : List UInt8) (at' v : Nat) : List UInt8 := b.set (at' / 8) ((b[at' / 8]?.getD 0) ||| UInt8.ofNat (v * 2 ^ (at' % 8)))
/-- The first k digits of a number, from a place on. -/
def packNum (b : List UInt8) (from' n : Nat) : Nat → List UInt8
  | 0 => b
  | k + 1 => orAt (packNum b from' n k) (from' + k) (bitAt n k)
/-- So many numbers. -/
def packF (l : List Nat) (wd : Nat) : Nat → List UInt8
  | 0 => List.replicate ((l.length * wd + 7) / 8) 0
  | i + 1 => packNum (packF l wd i) (i * wd) (l[i]?.getD 0) wd
def packB (l : List Nat) (wd : Nat) : List UInt8 := packF l wd l.length
theorem orAt_len (b : List UInt8) (a v : Nat) : (orAt b a v).length = b.length := by simp [orAt]
theorem packNum_len (b : List UInt8) (f n : Nat) : ∀ k, (packNum b f n k).length = b.length
  | 0 => rfl
  | k + 1 => by rw [packNum, orAt_len, packNum_len b f n k]
theorem packF_len (l : List Nat) (wd : Nat) : ∀ i, (packF l wd i).length = (l.length * wd + 7) / 8
  | 0 => by simp [packF]
  | i + 1 => by rw [packF, packNum_len, packF_len l wd i]
theorem nat_bits (n : Nat) (h : n < 9223372036854775808) : (BitVec.ofInt 64 (n : Int)).toNat = n := by
  rw [BitVec.toNat_ofInt]
  omega
theorem and_1 (n : Nat) (h : n < 9223372036854775808) : Go.bits .and .i64 (n : Int) 1 = ((n % 2 : Nat) : Int) := by
  have e : Go.bits .and .i64 (n : Int) 1 = IntKind.i64.wrap (((BitVec.ofInt 64 (n : Int)).toNat &&& 1 : Nat) : Int) := by
    simp only [bits, BitVec.toNat_and]
    rfl
  rw [e, nat_bits n h, show n &&& 1 = n % 2 from Nat.and_two_pow_sub_one_eq_mod n 1, IntKind.wrap_i64]
  omega
theorem u8_or_nat (a b : Nat) (ha : a < 256) (hb : b < 256) : Go.bits .or .u8 (a : Int) (b : Int) = ((a ||| b : Nat) : Int) := by
  have hx : a ||| b < 2 ^ 8 := Nat.or_lt_two_pow (by omega) (by omega)
  show IntKind.u8.wrap ((BitVec.ofInt 8 (a : Int) ||| BitVec.ofInt 8 (b : Int)).toNat : Int) = _
  rw [BitVec.toNat_or, ofInt_u8 a ha, ofInt_u8 b hb, IntKind.wrap_u8']
  omega
theorem and_at (n k : Nat) (h : n < 9223372036854775808) : Go.bits .and .i64 ((n : Int) / 2 ^ k) 1 = (bitAt n k : Nat) := by
  have e : (n : Int) / 2 ^ k = ((n / 2 ^ k : Nat) : Int) := by push_cast; rfl
  rw [e, and_1 _ (Nat.lt_of_le_of_lt (Nat.div_le_self _ _) h)]
  rfl
theorem or_at (x : UInt8) (z t : Nat) : Go.bits .or .u8 (x.toNat : Int) ((z : Int) % 256 * 2 ^ t % 256) = ((x ||| UInt8.ofNat (z * 2 ^ t)).toNat : Int) := by
  have e : (z : Int) % 256 * 2 ^ t % 256 = ((z * 2 ^ t % 256 : Nat) : Int) := by
    have e1 : z % 256 * 2 ^ t % 256 = z * 2 ^ t % 256 := by rw [Nat.mul_mod, Nat.mod_mod, ← Nat.mul_mod]
    rw [← e1]
    simp only [Int.natCast_emod, Int.natCast_mul, Int.natCast_pow]
    rfl
  rw [e, u8_or_nat _ _ x.toNat_lt (Nat.mod_lt _ (by decide)), UInt8.toNat_or, UInt8.toNat_ofNat']
theorem info_u8 : (Tryz.prog.info? 5).map (fun i => (i.zero, i.size, i.bytes)) = some (some (.int .u8 0), 1, 1) := by kernel_rfl
/-- A made row of noughts. -/
theorem made_row {W : World} {base g n : Nat} (hb : base ≤ g) (hn : n ≤ 140737488355328) (hh : W.heap[g]? = some (.cells (madeCells #[.int .u8 0] n) 5 (0, 0))) :
    byteK.own 5 W base TT (.slice (some ⟨g, 0, none⟩) n n) (List.replicate n 0) := by
  refine Kd.own_make (z := .int .u8 0) hn rfl (fun _ _ => rfl) ⟨by simp, .inr ⟨g, n, _, rfl, hb, hh, Nat.le_refl _, by unfold maxLen; omega, by simp [madeCells], ?_⟩⟩
  rw [toList_madeCells_one]
  simp
theorem width_calls (n : Nat) (hn : n ≤ 9223372036854775807) (w : World) : Calls Tryz.prog 59 #[.int .i64 n] w fun e w' => e = .returned (.int .i64 (Lib.bitLen n : Nat)) ∧ w = w' := by
  have HB := Lib.hid (fun w => Tryz.bits_Len (n : Int) w (by omega) (by omega))
  rw [Int.toNat_natCast] at HB
  generalize Lib.bitLen n = b at *
  have hmax : max (n : Int) 0 = (n : Int) := by omega
  have hw : IntKind.u64.wrap (n : Int) = (n : Int) := by rw [IntKind.wrap_u64]; omega
  go_enter Tryz.func59, Tryz.ntmps59
  go_wp2_with fail
  refine (HB.out _).mono ?_
  rintro e w2 ⟨rfl, rfl⟩
  go_wp2
  go_ret
  exact ⟨rfl, rfl⟩
theorem fits_calls (n wd : Nat) (h1 : n ≤ 1000) (h2 : wd ≤ 20) (w : World) : Calls Tryz.prog 100 #[.int .i64 n, .int .i64 wd] w fun e w' => e = .returned (.bool true) ∧ w = w' := by
  have a1 : (0 : Int) ≤ (n : Int) := by omega
  have a2 : (0 : Int) ≤ (wd : Int) := by omega
  have a3 : (n : Int) ≤ 1000 := by omega
  have a4 : (wd : Int) ≤ 20 := by omega
  go_enter Tryz.func100, Tryz.ntmps100
  go_wp2
  go_ret
  exact ⟨rfl, rfl⟩
theorem size_calls (n : Nat) (h1 : n ≤ 1000000) (w : World) : Calls Tryz.prog 101 #[.int .i64 n] w fun e w' => e = .returned (.int .i64 ((n + 7) / 8 : Nat)) ∧ w = w' := by
  have q1 : IntKind.i64.wrap ((n : Int) + 8) = (n : Int) + 8 := by rw [IntKind.wrap_i64]; omega
  have q2 : IntKind.i64.wrap ((n : Int) + 8 - 1) = ((n + 7 : Nat) : Int) := by rw [IntKind.wrap_i64]; omega
  have q3 : ((n + 7 : Nat) : Int).tdiv 8 = ((n + 7) / 8 : Nat) := by rfl
  go_enter Tryz.func101, Tryz.ntmps101
  go_wp2
  go_ret
  exact ⟨rfl, rfl⟩
theorem int_cells {w : World} {ok : Nat → Prop} {l : List Nat} {A : Option Addr} {c : Nat} (h : intK.sl.M w ok (natZ l) [.slice A l.length c]) (hp : 0 < l.length) :
    ∃ b off, A = some ⟨b, off, none⟩ ∧ ok b ∧ b < w.heap.size ∧ ∀ i (hi : i < l.length), w.cell? ⟨b, off + i, none⟩ = some (.int .i64 (l[i] : Nat)) := by
  obtain ⟨A', c', he, hlc, _, hA, hrow⟩ := h
  have hz : (natZ l).length = l.length := by simp [natZ]
  obtain ⟨rfl, rfl⟩ : A = A' ∧ c = c' := by simpa [hz] using he
  obtain ⟨b, off, hAe, hok, hcells⟩ := Kd.row_plain rfl hrow (by omega)
  have hget : ∀ i (hi : i < l.length), w.cell? ⟨b, off + i, none⟩ = some (.int .i64 (l[i] : Nat)) := fun i hi => by
    obtain ⟨u, hu, hM⟩ := hcells i (by omega)
    have e : (natZ l)[i]'(by omega) = ((l[i] : Nat) : Int) := by simp [natZ]
    rw [e] at hM
    obtain ⟨h1, _⟩ := hM
    simp at h1
    rw [hu, h1]
  exact ⟨b, off, hAe, hok, cell_lt (hget 0 hp), hget⟩
set_option maxHeartbeats 6400000 in
set_option maxRecDepth 100000 in
theorem pack_calls (l : List Nat) (wd : Nat) (hw : wd ≤ 20) (hl : l.length ≤ 1000) (hn : ∀ n ∈ l, n ≤ 1000000 ∧ Lib.bitLen n ≤ wd) (A : Option Addr) (c : Nat) (w : World) (HL : intK.sl.M w (fun k => k < w.heap.size) (natZ l) [.slice A l.length c]) :
    Calls Tryz.prog 58 #[.slice A l.length c, .int .i64 wd] w fun e w' => (∃ v, e = .returned (.tuple #[v, .int .i64 0]) ∧ byteK.own 5 w' w.heap.size TT v (packB l wd)) ∧ Below w.heap.size w w' := by
  have HRow := Lib.hid (fun hp => int_cells HL hp)
  have HN := Lib.hid hn
  obtain ⟨m, hm⟩ : ∃ m, m = l.length * wd := ⟨_, rfl⟩
  have hmul : (l.length : Int) * (wd : Int) = (m : Int) := by rw [hm]; rfl
  have hmb : m ≤ 20000 := by rw [hm]; exact Nat.le_trans (Nat.mul_le_mul hl hw) (by decide)
  have hwm : IntKind.i64.wrap (m : Int) = (m : Int) := by rw [IntKind.wrap_i64]; omega
  have HM := Lib.hid hm
  obtain ⟨sz, hsz⟩ : ∃ sz, sz = (m + 7) / 8 := ⟨_, rfl⟩
  have hszb : sz ≤ 2501 := by omega
  have HSz := Lib.hid hsz
  have HF := Lib.hid (fun w => fits_calls l.length wd hl hw w)
  have HS := Lib.hid (fun w => size_calls m (by omega) w)
  rw [← hsz] at HS
  have hmk := run_make_row' (P := Tryz.prog) 55 5 (.int .u8 0) 1 Tryz.underlying55 info_u8 rfl .i64 .i64 sz (by omega) (by omega)
  have HB0 : Hid (Below w.heap.size w (w.alloc (.cells (madeCells #[.int .u8 0] sz) 5))) := Lib.hid (bel_alloc (Below.refl _ _) _)
  have HO0 : Hid (byteK.own 5 (w.alloc (.cells (madeCells #[.int .u8 0] sz) 5)) w.heap.size TT (.slice (some ⟨w.heap.size, 0, none⟩) sz sz) (packF l wd 0)) := Lib.hid (by
    rw [packF, ← HM.out, ← HSz.out]
    exact made_row (Nat.le_refl _) (by omega) (Kd.heap_new _ _))
  generalize madeCells #[.int .u8 0] sz = C0 at *
  clear HL hn hm hsz
  go_enter Tryz.func58, Tryz.ntmps58
  go_wp2_with fail
  refine (HF.out _).mono ?_
  rintro e w2 ⟨rfl, rfl⟩
  go_wp2_with fail
  refine (HS.out _).mono ?_
  rintro e w3 ⟨rfl, rfl⟩
  go_wp2
  go_loopw [24] (fun vi wr => ∃ i : Nat, vi = .int .i64 i ∧ i ≤ l.length ∧ Hid (byteK.own 5 wr w.heap.size TT (.slice (some ⟨w.heap.size, 0, none⟩) sz sz) (packF l wd i) ∧ Below w.heap.size w wr)) (fun vi _ => l.length - (intOf vi).toNat)
  case atStart => exact ⟨0, rfl, by omega, Lib.hid ⟨HO0.out, HB0.out⟩⟩
  case round =>
    obtain ⟨i, rfl, hiL, HI⟩ := hrel
    clear HO0 HB0 hmk
    by_cases hlt : i < l.length
    · have hd : decide (i < l.length) = true := decide_eq_true hlt
      have ik : (i : Int) < (l.length : Int) := by omega
      obtain ⟨b, off, rfl, hbs, _, hcells⟩ := HRow.out (by omega)
      have hc := (HI.out.2.cell (p := ⟨b, off + i, none⟩) hbs).trans (hcells i hlt)
      obtain ⟨n, hne⟩ : ∃ n, n = l[i] := ⟨_, rfl⟩
      rw [← hne] at hc
      obtain ⟨hnb, hnw⟩ := HN.out n (by rw [hne]; exact List.getElem_mem hlt)
      have HW := Lib.hid (fun w => width_calls n (by omega) w)
      obtain ⟨q, hq⟩ : ∃ q, q = Lib.bitLen n := ⟨_, rfl⟩
      rw [← hq] at HW hnw
      have hn0 : ¬ (n : Int) < 0 := by omega
      have hqw : ¬ (wd : Int) < (q : Int) := by omega
      obtain ⟨P0, hP0⟩ : ∃ P0, P0 = packF l wd i := ⟨_, rfl⟩
      have HNext : Hid (packF l wd (i + 1) = packNum P0 (i * wd) n wd) := Lib.hid (by rw [packF, ← hP0, hne, List.getElem?_eq_getElem hlt]; rfl)
      have HLen : Hid (P0.length = sz) := Lib.hid (by rw [hP0, packF_len, ← HM.out, ← HSz.out])
      have HOi : Hid (byteK.own 5 wr w.heap.size TT (.slice (some ⟨w.heap.size, 0, none⟩) sz sz) (packNum P0 (i * wd) n 0)) := Lib.hid (by rw [packNum, hP0]; exact HI.out.1)
      have HBi := Lib.hid HI.out.2
      obtain ⟨fr, hfr⟩ : ∃ fr, fr = i * wd := ⟨_, rfl⟩
      have hfri : (i : Int) * (wd : Int) = (fr : Int) := by rw [hfr]; rfl
      have hfrb : fr + wd ≤ m := by
        rw [hfr, HM.out]
        have := Nat.mul_le_mul_right wd (show i + 1 ≤ l.length from hlt)
        rw [Nat.succ_mul] at this
        exact this
      rw [← hfr] at HNext HOi
      clear hcells hne hq hP0 hfr
      go_wp2_with fail
      refine (HW.out _).mono ?_
      rintro e w4 ⟨rfl, rfl⟩
      go_wp2
      go_loopw [38] (fun vk wx => ∃ k : Nat, vk = .int .i64 k ∧ k ≤ wd ∧ Hid (byteK.own 5 wx w.heap.size TT (.slice (some ⟨w.heap.size, 0, none⟩) sz sz) (packNum P0 fr n k) ∧ Below w.heap.size w wx)) (fun vk _ => wd - (intOf vk).toNat)
      case atStart => exact ⟨0, rfl, by omega, Lib.hid ⟨HOi.out, HBi.out⟩⟩
      case round =>
        obtain ⟨k, rfl, hkw, HK⟩ := hrel
        clear HOi HBi
        by_cases hkl : k < wd
        · have hd2 : decide (k < wd) = true := decide_eq_true hkl
          have hjs : (fr + k) / 8 < sz := by have := HSz.out; omega
          have jz : (((fr + k) / 8 : Nat) : Int) < (sz : Int) := by omega
          have hlen : (packNum P0 fr n k).length = sz := by rw [packNum_len, HLen.out]
          obtain ⟨u, hcu, hu⟩ := Kd.own_cell (i := (fr + k) / 8) rfl HK.out.1 (by omega)
          obtain ⟨x, hx⟩ : ∃ x : UInt8, x = (packNum P0 fr n k)[(fr + k) / 8]'(by omega) := ⟨_, rfl⟩
          obtain rfl : u = .int .u8 (x.toNat : Int) := by rw [hx]; simpa [byteK, flat] using hu
          obtain ⟨z, hz⟩ : ∃ z, z = bitAt n k := ⟨_, rfl⟩
          have hand := and_at n k (by omega)
          rw [← hz] at hand
          have hor := or_at x z ((fr + k) % 8)
          obtain ⟨y, hy⟩ : ∃ y, y = x ||| UInt8.ofNat (z * 2 ^ ((fr + k) % 8)) := ⟨_, rfl⟩
          rw [← hy] at hor
          have HSet : Hid (∀ w2, Below wr.heap.size wr w2 → byteK.own 5 (w2.setCell ⟨w.heap.size, (fr + k) / 8, none⟩ (.int .u8 (y.toNat : Int))) w.heap.size TT (.slice (some ⟨w.heap.size, 0, none⟩) sz sz) (packNum P0 fr n (k + 1)) ∧ Below w.heap.size w (w2.setCell ⟨w.heap.size, (fr + k) / 8, none⟩ (.int .u8 (y.toNat : Int))) ∧ w2.cell? ⟨w.heap.size, (fr + k) / 8, none⟩ = some (.int .u8 (x.toNat : Int)) ∧ w2.frozen? ⟨w.heap.size, (fr + k) / 8, none⟩ = false) := Lib.hid (fun w2 hb2 => by
            have h1 := Kd.own_below HK.out.1 hb2
            have h2 := Kd.own_set (u := .int .u8 (y.toNat : Int)) rfl h1 (i := (fr + k) / 8) (by omega) (x := y) rfl
            have e : packNum P0 fr n (k + 1) = (packNum P0 fr n k).set ((fr + k) / 8) y := by
              rw [packNum, orAt, ← hz, List.getElem?_eq_getElem (by omega), ← hx, hy]
              rfl
            rw [e]
            have hgl := cell_lt hcu
            exact ⟨h2, bel_set (bel_step HK.out.2 hb2) (Nat.le_refl _) _, (hb2.cell (p := ⟨w.heap.size, (fr + k) / 8, none⟩) hgl).trans hcu, Kd.own_frozen h1 _⟩)
          have hcp := fun p : QT.Bel wr => p.cell hcu
          clear hu hx hz hy
          go_upto_region 13 with fail
          refine QT.region_bel 15 (by kernel_rfl) (by kernel_rfl) ?_
          simp only [List.take_succ_cons, List.take_zero, List.drop_succ_cons, List.drop_zero]
          iterate 15 (go_big_quiet_step (fail))
          refine wpQuiet_nil ?_
          intro w2 hw'
          obtain ⟨⟨_, hb2⟩, rfl⟩ := hw'
          obtain ⟨h1, h2, hc2, hf2⟩ := HSet.out w2 hb2
          have HN1 := Lib.hid h1
          have HN2 := Lib.hid h2
          clear h1 h2 hb2 HSet hcp hcu HK
          go_wp2
          go_roundw
          case rel => exact ⟨k + 1, by go_num, by omega, Lib.hid ⟨HN1.out, HN2.out⟩⟩
          case measure => simp [intOf]; omega
        · have hd2 : decide (k < wd) = false := decide_eq_false hkl
          obtain rfl : k = wd := by omega
          have HK2 : Hid (byteK.own 5 wr w.heap.size TT (.slice (some ⟨w.heap.size, 0, none⟩) sz sz) (packF l k (i + 1))) := Lib.hid (by rw [HNext.out]; exact HK.out.1)
          have HB2 := Lib.hid HK.out.2
          clear HK
          go_wp2
          go_roundw
          case rel => exact ⟨i + 1, by go_num, by omega, Lib.hid ⟨HK2.out, HB2.out⟩⟩
          case measure => simp [intOf]; omega
    · have hd : decide (i < l.length) = false := decide_eq_false hlt
      obtain rfl : i = l.length := by omega
      have HI2 := Lib.hid HI.out
      clear HI
      go_wp2
      go_ret2
      exact ⟨⟨_, rfl, HI2.out.1⟩, HI2.out.2⟩
end Go.Proofs.YtnplommdgfgboaaGreatDoor.PackW
/-
  slices.Clone at terms, at triples of numbers, at whole numbers, at texts, walked.
-/
set_option linter.unusedVariables false
set_option linter.unusedSimpArgs false
namespace Go.Proofs.YtnplommdgfgboaaGreatDoor.Clones
open Go.RowKit Go.Lib Go.Proofs.YtnplommdgfgboaaGreatDoor.B Go.Proofs.YtnplommdgfgboaaGreatDoor.Rd Go.Proofs.YtnplommdgfgboaaGreatDoor.TermPure Go.Proofs.YtnplommdgfgboaaGreatDoor.LinesPure Go.Proofs.YtnplommdgfgboaaGreatDoor.Tri Go.Proofs.YtnplommdgfgboaaGreatDoor.OrdG Go.Proofs.YtnplommdgfgboaaGreatDoor.StoreW

def TT : Nat → Prop := fun _ => True
def zero_term : Value := .agg #[.int .i64 0, .string ⟨#[]⟩, .string ⟨#[]⟩]
theorem info_term : (Tryz.prog.info? 24).map (fun i => (i.zero, i.size, i.bytes)) = some (some zero_term, termK.sz, 40) := by kernel_rfl
theorem any_term : ∀ (w : World) (ok ok' : Nat → Prop) (x : Term) (cs : List Value), termK.M w ok x cs → termK.M w ok' x cs := fun _ _ _ _ _ h => h
set_option maxHeartbeats 3200000 in
set_option maxRecDepth 100000 in
theorem clone_term_calls (l : List Term) (A : Option Addr) (c : Nat) (w : World) (HL : termK.sl.M w (fun _ => True) l [.slice A l.length c]) (hb : l.length * 40 ≤ 140737488355328) :
    Calls Tryz.prog 46 #[.slice A l.length c] w fun e w' => (∃ v, e = .returned v ∧ termK.own 24 w' w.heap.size TT v l) ∧ Below w.heap.size w w' := by
  have HM := Lib.hid HL
  obtain ⟨A', c', he, h1, h2, h3, hr⟩ := HL
  obtain ⟨rfl, rfl⟩ : A = A' ∧ c = c' := by simpa using he
  cases A with
  | none =>
    have hc := h3 rfl
    have hl0 : l = [] := List.eq_nil_of_length_eq_zero (by omega)
    subst hl0 hc
    have HO : Hid (termK.own 24 w w.heap.size TT (.slice none 0 0) []) := Lib.hid (Kd.own_nil _ _ _ _ _)
    clear he h1 h2 h3 hr HM hb
    simp only [List.length_nil]
    have hq : ∀ w, Sem.run Tryz.prog (binOp BinOp.eql 31 (Value.slice none 0 0) (Value.slice none 0 0)) w = .ok (.bool true) w := fun w => run_eql_nil_slice w 31 24 none 0 0 0 0 Tryz.underlying31
    go_enter Tryz.func46, Tryz.ntmps46
    go_wp2
    go_ret
    exact ⟨⟨_, rfl, HO.out⟩, Below.refl _ _⟩
  | some ad =>
    have b0 : Below w.heap.size w (w.alloc (.cells #[] 24)) := bel_alloc (Below.refl _ _) _
    have HO0 : Hid (termK.own 24 (w.alloc (.cells #[] 24)) w.heap.size TT (.slice (some ⟨w.heap.size, 0, none⟩) 0 0) []) :=
      Lib.hid (Kd.own_block (cells := []) (xs := []) (Nat.le_refl _) (Kd.heap_new _ _) rfl (by simp) (fun i x h => by simp at h))
    have HR0 := Lib.hid (Kd.M_below HM.out b0)
    clear he h1 h2 h3 hr
    have hq : ∀ w, Sem.run Tryz.prog (binOp BinOp.eql 31 (Value.slice (some ad) l.length c) (Value.slice none 0 0)) w = .ok (.bool false) w := fun w => Lib.run_eql_slice_nil w 31 24 (some ad) l.length c 0 0 Tryz.underlying31
    go_enter Tryz.func46, Tryz.ntmps46
    go_wp2_with (at_builtin; refine Kd.own_app termK w.heap.size rfl (.tmp 5) (.tmp 6) 31 24 zero_term 40 rfl Tryz.underlying31 info_term rfl (by decide) _ [] l (some ad) c TT rfl rfl HO0.out (.inr ⟨HR0.out, any_term⟩) b0 (by simp) (by simp; omega) ?_; intro v1 w1 ho1 hb1 hg1 hv1; clear hg1 hv1; rw [List.nil_append] at ho1; have HO1 := Lib.hid ho1; have HB1 := Lib.hid hb1; clear ho1 hb1 b0)
    go_wp2
    go_ret
    exact ⟨⟨_, rfl, HO1.out⟩, HB1.out⟩
def zero_ids : Value := .agg #[.int .i64 0, .int .i64 0, .int .i64 0]
theorem info_ids : (Tryz.prog.info? 40).map (fun i => (i.zero, i.size, i.bytes)) = some (some zero_ids, idsK.sz, 24) := by kernel_rfl
theorem any_ids : ∀ (w : World) (ok ok' : Nat → Prop) (x : Ids) (cs : List Value), idsK.M w ok x cs → idsK.M w ok' x cs := fun _ _ _ _ _ h => h
set_option maxHeartbeats 3200000 in
set_option maxRecDepth 100000 in
theorem clone_ids_calls (l : List Ids) (A : Option Addr) (c : Nat) (w : World) (HL : idsK.sl.M w (fun _ => True) l [.slice A l.length c]) (hb : l.length * 24 ≤ 140737488355328) :
    Calls Tryz.prog 52 #[.slice A l.length c] w fun e w' => (∃ v, e = .returned v ∧ idsK.own 40 w' w.heap.size TT v l) ∧ Below w.heap.size w w' := by
  have HM := Lib.hid HL
  obtain ⟨A', c', he, h1, h2, h3, hr⟩ := HL
  obtain ⟨rfl, rfl⟩ : A = A' ∧ c = c' := by simpa using he
  cases A with
  | none =>
    have hc := h3 rfl
    have hl0 : l = [] := List.eq_nil_of_length_eq_zero (by omega)
    subst hl0 hc
    have HO : Hid (idsK.own 40 w w.heap.size TT (.slice none 0 0) []) := Lib.hid (Kd.own_nil _ _ _ _ _)
    clear he h1 h2 h3 hr HM hb
    simp only [List.length_nil]
    have hq : ∀ w, Sem.run Tryz.prog (binOp BinOp.eql 48 (Value.slice none 0 0) (Value.slice none 0 0)) w = .ok (.bool true) w := fun w => run_eql_nil_slice w 48 40 none 0 0 0 0 Tryz.underlying48
    go_enter Tryz.func52, Tryz.ntmps52
    go_wp2
    go_ret
    exact ⟨⟨_, rfl, HO.out⟩, Below.refl _ _⟩
  | some ad =>
    have b0 : Below w.heap.size w (w.alloc (.cells #[] 40)) := bel_alloc (Below.refl _ _) _
    have HO0 : Hid (idsK.own 40 (w.alloc (.cells #[] 40)) w.heap.size TT (.slice (some ⟨w.heap.size, 0, none⟩) 0 0) []) :=
      Lib.hid (Kd.own_block (cells := []) (xs := []) (Nat.le_refl _) (Kd.heap_new _ _) rfl (by simp) (fun i x h => by simp at h))
    have HR0 := Lib.hid (Kd.M_below HM.out b0)
    clear he h1 h2 h3 hr
    have hq : ∀ w, Sem.run Tryz.prog (binOp BinOp.eql 48 (Value.slice (some ad) l.length c) (Value.slice none 0 0)) w = .ok (.bool false) w := fun w => Lib.run_eql_slice_nil w 48 40 (some ad) l.length c 0 0 Tryz.underlying48
    go_enter Tryz.func52, Tryz.ntmps52
    go_wp2_with (at_builtin; refine Kd.own_app idsK w.heap.size rfl (.tmp 5) (.tmp 6) 48 40 zero_ids 24 rfl Tryz.underlying48 info_ids rfl (by decide) _ [] l (some ad) c TT rfl rfl HO0.out (.inr ⟨HR0.out, any_ids⟩) b0 (by simp) (by simp; omega) ?_; intro v1 w1 ho1 hb1 hg1 hv1; clear hg1 hv1; rw [List.nil_append] at ho1; have HO1 := Lib.hid ho1; have HB1 := Lib.hid hb1; clear ho1 hb1 b0)
    go_wp2
    go_ret
    exact ⟨⟨_, rfl, HO1.out⟩, HB1.out⟩
def zero_int : Value := .int .i64 0
theorem info_int : (Tryz.prog.info? 3).map (fun i => (i.zero, i.size, i.bytes)) = some (some zero_int, intK.sz, 8) := by kernel_rfl
theorem any_int : ∀ (w : World) (ok ok' : Nat → Prop) (x : Int) (cs : List Value), intK.M w ok x cs → intK.M w ok' x cs := fun _ _ _ _ _ h => h
set_option maxHeartbeats 3200000 in
set_option maxRecDepth 100000 in
theorem clone_int_calls (l : List Int) (A : Option Addr) (c : Nat) (w : World) (HL : intK.sl.M w (fun _ => True) l [.slice A l.length c]) (hb : l.length * 8 ≤ 140737488355328) :
    Calls Tryz.prog 185 #[.slice A l.length c] w fun e w' => (∃ v, e = .returned v ∧ intK.own 3 w' w.heap.size TT v l) ∧ Below w.heap.size w w' := by
  have HM := Lib.hid HL
  obtain ⟨A', c', he, h1, h2, h3, hr⟩ := HL
  obtain ⟨rfl, rfl⟩ : A = A' ∧ c = c' := by simpa using he
  cases A with
  | none =>
    have hc := h3 rfl
    have hl0 : l = [] := List.eq_nil_of_length_eq_zero (by omega)
    subst hl0 hc
    have HO : Hid (intK.own 3 w w.heap.size TT (.slice none 0 0) []) := Lib.hid (Kd.own_nil _ _ _ _ _)
    clear he h1 h2 h3 hr HM hb
    simp only [List.length_nil]
    have hq : ∀ w, Sem.run Tryz.prog (binOp BinOp.eql 74 (Value.slice none 0 0) (Value.slice none 0 0)) w = .ok (.bool true) w := fun w => run_eql_nil_slice w 74 3 none 0 0 0 0 Tryz.underlying74
    go_enter Tryz.func185, Tryz.ntmps185
    go_wp2
    go_ret
    exact ⟨⟨_, rfl, HO.out⟩, Below.refl _ _⟩
  | some ad =>
    have b0 : Below w.heap.size w (w.alloc (.cells #[] 3)) := bel_alloc (Below.refl _ _) _
    have HO0 : Hid (intK.own 3 (w.alloc (.cells #[] 3)) w.heap.size TT (.slice (some ⟨w.heap.size, 0, none⟩) 0 0) []) :=
      Lib.hid (Kd.own_block (cells := []) (xs := []) (Nat.le_refl _) (Kd.heap_new _ _) rfl (by simp) (fun i x h => by simp at h))
    have HR0 := Lib.hid (Kd.M_below HM.out b0)
    clear he h1 h2 h3 hr
    have hq : ∀ w, Sem.run Tryz.prog (binOp BinOp.eql 74 (Value.slice (some ad) l.length c) (Value.slice none 0 0)) w = .ok (.bool false) w := fun w => Lib.run_eql_slice_nil w 74 3 (some ad) l.length c 0 0 Tryz.underlying74
    go_enter Tryz.func185, Tryz.ntmps185
    go_wp2_with (at_builtin; refine Kd.own_app intK w.heap.size rfl (.tmp 5) (.tmp 6) 74 3 zero_int 8 rfl Tryz.underlying74 info_int rfl (by decide) _ [] l (some ad) c TT rfl rfl HO0.out (.inr ⟨HR0.out, any_int⟩) b0 (by simp) (by simp; omega) ?_; intro v1 w1 ho1 hb1 hg1 hv1; clear hg1 hv1; rw [List.nil_append] at ho1; have HO1 := Lib.hid ho1; have HB1 := Lib.hid hb1; clear ho1 hb1 b0)
    go_wp2
    go_ret
    exact ⟨⟨_, rfl, HO1.out⟩, HB1.out⟩
def zero_str : Value := .string ⟨#[]⟩
theorem info_str : (Tryz.prog.info? 9).map (fun i => (i.zero, i.size, i.bytes)) = some (some zero_str, strK.sz, 16) := by kernel_rfl
theorem any_str : ∀ (w : World) (ok ok' : Nat → Prop) (x : ByteArray) (cs : List Value), strK.M w ok x cs → strK.M w ok' x cs := fun _ _ _ _ _ h => h
set_option maxHeartbeats 3200000 in
set_option maxRecDepth 100000 in
theorem clone_str_calls (l : List ByteArray) (A : Option Addr) (c : Nat) (w : World) (HL : strK.sl.M w (fun _ => True) l [.slice A l.length c]) (hb : l.length * 16 ≤ 140737488355328) :
    Calls Tryz.prog 99 #[.slice A l.length c] w fun e w' => (∃ v, e = .returned v ∧ strK.own 9 w' w.heap.size TT v l) ∧ Below w.heap.size w w' := by
  have HM := Lib.hid HL
  obtain ⟨A', c', he, h1, h2, h3, hr⟩ := HL
  obtain ⟨rfl, rfl⟩ : A = A' ∧ c = c' := by simpa using he
  cases A with
  | none =>
    have hc := h3 rfl
    have hl0 : l = [] := List.eq_nil_of_length_eq_zero (by omega)
    subst hl0 hc
    have HO : Hid (strK.own 9 w w.heap.size TT (.slice none 0 0) []) := Lib.hid (Kd.own_nil _ _ _ _ _)
    clear he h1 h2 h3 hr HM hb
    simp only [List.length_nil]
    have hq : ∀ w, Sem.run Tryz.prog (binOp BinOp.eql 51 (Value.slice none 0 0) (Value.slice none 0 0)) w = .ok (.bool true) w := fun w => run_eql_nil_slice w 51 9 none 0 0 0 0 Tryz.underlying51
    go_enter Tryz.func99, Tryz.ntmps99
    go_wp2
    go_ret
    exact ⟨⟨_, rfl, HO.out⟩, Below.refl _ _⟩
  | some ad =>
    have b0 : Below w.heap.size w (w.alloc (.cells #[] 9)) := bel_alloc (Below.refl _ _) _
    have HO0 : Hid (strK.own 9 (w.alloc (.cells #[] 9)) w.heap.size TT (.slice (some ⟨w.heap.size, 0, none⟩) 0 0) []) :=
      Lib.hid (Kd.own_block (cells := []) (xs := []) (Nat.le_refl _) (Kd.heap_new _ _) rfl (by simp) (fun i x h => by simp at h))
    have HR0 := Lib.hid (Kd.M_below HM.out b0)
    clear he h1 h2 h3 hr
    have hq : ∀ w, Sem.run Tryz.prog (binOp BinOp.eql 51 (Value.slice (some ad) l.length c) (Value.slice none 0 0)) w = .ok (.bool false) w := fun w => Lib.run_eql_slice_nil w 51 9 (some ad) l.length c 0 0 Tryz.underlying51
    go_enter Tryz.func99, Tryz.ntmps99
    go_wp2_with (at_builtin; refine Kd.own_app strK w.heap.size rfl (.tmp 5) (.tmp 6) 51 9 zero_str 16 rfl Tryz.underlying51 info_str rfl (by decide) _ [] l (some ad) c TT rfl rfl HO0.out (.inr ⟨HR0.out, any_str⟩) b0 (by simp) (by simp; omega) ?_; intro v1 w1 ho1 hb1 hg1 hv1; clear hg1 hv1; rw [List.nil_append] at ho1; have HO1 := Lib.hid ho1; have HB1 := Lib.hid hb1; clear ho1 hb1 b0)
    go_wp2
    go_ret
    exact ⟨⟨_, rfl, HO1.out⟩, HB1.out⟩
end Go.Proofs.YtnplommdgfgboaaGreatDoor.Clones
/-
  wave.New, walked.
-/
set_option linter.unusedVariables false
set_option linter.unusedSimpArgs false
namespace Go.Proofs.YtnplommdgfgboaaGreatDoor.WaveW
open Go.RowKit Go.Lib Go.Proofs.YtnplommdgfgboaaGreatDoor.B Go.Proofs.YtnplommdgfgboaaGreatDoor.Rd Go.Proofs.YtnplommdgfgboaaGreatDoor.StoreW Go.Proofs.YtnplommdgfgboaaGreatDoor.PackW Go.Proofs.YtnplommdgfgboaaGreatDoor.Clones

theorem bits_thousand : ∀ n : Fin 1001, Lib.bitLen n.val ≤ 10 := by decide +kernel
set_option maxHeartbeats 3200000 in
set_option maxRecDepth 100000 in
theorem wave_calls (l : List Nat) (hl : l.length ≤ 1000) (hn : ∀ n ∈ l, n ≤ 1000) (A : Option Addr) (c : Nat) (w : World) (HL : intK.sl.M w (fun k => k < w.heap.size) (natZ l) [.slice A l.length c]) :
    Calls Tryz.prog 139 #[.slice A l.length c, .int .i64 10] w fun e w' => (∃ g, e = .returned (.tuple #[.pointer (some ⟨g, 0, none⟩), .int .i64 0]) ∧ WaveAt w' (fun k => w.heap.size ≤ k) g l) ∧ Below w.heap.size w w' := by
  have HP := Lib.hid (pack_calls l 10 (by omega) hl (fun n h => ⟨by have := hn n h; omega, bits_thousand ⟨n, by have := hn n h; omega⟩⟩) A c w HL)
  have HC := Lib.hid (fun w2 (hb : Below w.heap.size w w2) => clone_int_calls (natZ l) A c w2 (by rw [natZ_len]; exact intK.sl.mono (fun _ _ _ => trivial) (Kd.M_below HL hb)) (by rw [natZ_len]; omega))
  rw [natZ_len] at HC
  have HZ := Lib.hid (natZ_len l)
  clear HL hn
  go_enter Tryz.func139, Tryz.ntmps139
  go_wp2_with fail
  refine HP.out.mono ?_
  rintro e w2 ⟨⟨v, rfl, _⟩, hb2⟩
  have HC2 := Lib.hid (HC.out w2 hb2)
  have HB2 := Lib.hid hb2
  clear HC hb2 HP
  go_wp2_with fail
  refine HC2.out.mono ?_
  rintro e w3 ⟨⟨v3, rfl, ho3⟩, hb3⟩
  obtain ⟨A3, c3, rfl, hc3, hA3⟩ := Kd.own_slice ho3
  have HB3 := Lib.hid (bel_step HB2.out hb3)
  have HB4 : Hid (Below w.heap.size w (w3.alloc (.cells #[.slice A3 (natZ l).length c3] 231))) := Lib.hid (bel_alloc HB3.out _)
  have HW : Hid (WaveAt (w3.alloc (.cells #[.slice A3 (natZ l).length c3] 231)) (fun k => w.heap.size ≤ k) w3.heap.size l) := Lib.hid (by
    refine ⟨HB3.out.size, A3, c3, ?_, ?_⟩
    · rw [World.cell?, Kd.heap_new, ← HZ.out]
      rfl
    · have h2 := own_from any_int (Kd.own_lower HB2.out.size (Kd.own_alloc ho3 (.cells #[.slice A3 (natZ l).length c3] 231)))
      rw [← HZ.out]
      exact h2)
  clear ho3 hb3 HC2
  go_wp2
  go_ret2
  exact ⟨⟨w3.heap.size, rfl, HW.out⟩, HB4.out⟩
end Go.Proofs.YtnplommdgfgboaaGreatDoor.WaveW
/-
  slices.Compare of two rows of three whole numbers; the order of triples of numbers.
-/
set_option linter.unusedVariables false
set_option linter.unusedSimpArgs false
namespace Go.Proofs.YtnplommdgfgboaaGreatDoor.IdsCmp
open Go.RowKit Go.Lib Go.Proofs.YtnplommdgfgboaaGreatDoor.B Go.Proofs.YtnplommdgfgboaaGreatDoor.Rd Go.Proofs.YtnplommdgfgboaaGreatDoor.OrdG Go.Proofs.YtnplommdgfgboaaGreatDoor.StoreW Go.Proofs.YtnplommdgfgboaaGreatDoor.SortP

/-- Three numbers, where they lie. -/
def I3 (w : World) (g o : Nat) (x : Ids) : Prop := ∀ k, k < 3 → w.cell? ⟨g, o + k, none⟩ = some (.int .i64 (at3 x k : Nat))
theorem I3.of {w : World} {g o : Nat} {x : Ids} (h : ∀ j u, (idsL x)[j]? = some u → w.cell? ⟨g, o + j, none⟩ = some u) : I3 w g o x := fun k hk => by
  match k, hk with
  | 0, _ => exact h 0 _ rfl
  | 1, _ => exact h 1 _ rfl
  | 2, _ => exact h 2 _ rfl
theorem I3.lt {w : World} {g o : Nat} {x : Ids} (h : I3 w g o x) : g < w.heap.size := World.block_lt_of_cell? w ⟨g, o + 0, none⟩ (h 0 (by decide))
theorem I3.moved {w w' : World} {g o : Nat} {x : Ids} (h : I3 w g o x) (hm : w'.heap[g]? = w.heap[g]?) : I3 w' g o x := fun k hk => (World.cell?_of_block (a := ⟨g, o + k, none⟩) hm).trans (h k hk)
theorem I3.below {w w' : World} {g o : Nat} {x : Ids} (h : I3 w g o x) (hb : Below w.heap.size w w') : I3 w' g o x := h.moved (hb.block g h.lt)
theorem I3.new (w : World) (x : Ids) : I3 (w.alloc (.cells (idsL x).toArray 40)) w.heap.size 0 x := I3.of fun j u hu => by
  unfold World.cell?
  dsimp only
  rw [Kd.heap_new, Nat.zero_add]
  simpa using hu
def cI (x y : Ids) (k : Nat) : Int := compareInt (at3 x k : Nat) (at3 y k : Nat)
def cmpI (x y : Ids) : Int := orI (cI x y 0) (cI x y 1) (cI x y 2)
theorem cI_zero (x y : Ids) (k : Nat) : cI x y k = 0 ↔ at3 x k = at3 y k := by
  unfold cI compareInt
  split
  · omega
  · split <;> omega
theorem cI_neg (x y : Ids) (k : Nat) : cI x y k < 0 ↔ at3 x k < at3 y k := by
  unfold cI compareInt
  split
  · omega
  · split <;> omega
theorem cmpI_lt (x y : Ids) : cmpI x y < 0 ↔ ltI x y := by
  have a0 := cI_zero x y 0
  have a1 := cI_zero x y 1
  have b0 := cI_neg x y 0
  have b1 := cI_neg x y 1
  have b2 := cI_neg x y 2
  unfold cmpI orI ltI
  simp only [at3] at a0 a1 b0 b1 b2
  split
  · omega
  · split <;> omega
instance (x y : Ids) : Decidable (ltI x y) := by unfold ltI; infer_instance
theorem eq0 {x y : Ids} {k : Nat} (h : at3 x k = at3 y k) : ¬ cI x y k ≠ 0 := fun hn => hn ((cI_zero x y k).2 h)
theorem swo_ids : Go.Sort.SWO fun x y : { t : Ids // True } => decide (cmpI x.1 y.1 < 0) := by
  have key : ∀ x y : Ids, decide (cmpI x y < 0) = decide (ltI x y) := fun x y => by simp only [cmpI_lt]
  refine ⟨fun x => ?_, fun x y z h1 h2 => ?_, fun x y z h1 h2 => ?_⟩
  · rw [key, decide_eq_false_iff_not]
    exact ord_ids.irrefl _
  · rw [key, decide_eq_true_iff] at *
    exact ord_ids.trans _ _ _ h1 h2
  · rw [key, decide_eq_false_iff_not] at *
    intro h3
    rcases ord_ids.tri x.1 y.1 trivial trivial with h | h | h
    · exact h1 h
    · rw [h] at h3; exact h2 h3
    · exact h2 (ord_ids.trans _ _ _ h h3)
theorem cmp_at {x y : Ids} {k : Nat} (hk : k < 3) (he : ∀ j, j < k → at3 x j = at3 y j) (hne : cI x y k ≠ 0) : cmpI x y = cI x y k := by
  unfold cmpI orI
  match k, hk with
  | 0, _ => rw [if_pos hne]
  | 1, _ =>
    rw [if_neg (eq0 (he 0 (by decide))), if_pos hne]
  | 2, _ =>
    rw [if_neg (eq0 (he 0 (by decide))), if_neg (eq0 (he 1 (by decide)))]
theorem cmp_all {x y : Ids} (he : ∀ j, j < 3 → at3 x j = at3 y j) : cmpI x y = 0 := by
  unfold cmpI orI
  rw [if_neg (eq0 (he 0 (by decide))), if_neg (eq0 (he 1 (by decide)))]
  exact (cI_zero x y 2).2 (he 2 (by decide))
set_option maxHeartbeats 3200000 in
set_option maxRecDepth 100000 in
theorem compare_calls (x y : Ids) (g o h p c d : Nat) (w : World) (hx : I3 w g o x) (hy : I3 w h p y) :
    Calls Tryz.prog 93 #[.slice (some ⟨g, o, none⟩) 3 c, .slice (some ⟨h, p, none⟩) 3 d] w fun e w' => e = .returned (.int .i64 (cmpI x y)) ∧ w = w' := by
  have HX := Lib.hid hx
  have HY := Lib.hid hy
  clear hx hy
  go_enter Tryz.func93, Tryz.ntmps93
  go_wp2
  go_loopw [11] (fun vk wr => ∃ k : Nat, vk = .int .i64 k ∧ k ≤ 3 ∧ Hid (∀ j, j < k → at3 x j = at3 y j) ∧ w = wr) (fun vk _ => 3 - (intOf vk).toNat)
  case atStart => exact ⟨0, rfl, by omega, Lib.hid (fun j h => by omega), rfl⟩
  case round =>
    obtain ⟨k, rfl, hk, HE, rfl⟩ := hrel
    by_cases hlt : k < 3
    · have hd : decide ((k : Int) < 3) = true := decide_eq_true (by omega)
      have hd2 : decide ((3 : Int) ≤ (k : Int)) = false := decide_eq_false (by omega)
      have ik : (k : Int) < 3 := by omega
      have hcx := HX.out k hlt
      have hcy := HY.out k hlt
      have HC := Lib.hid (fun w => Tryz.cmp_Compare_int (at3 x k : Nat) (at3 y k : Nat) w)
      obtain ⟨v, hv⟩ : ∃ v, v = cI x y k := ⟨_, rfl⟩
      have hvc : compareInt (at3 x k : Nat) (at3 y k : Nat) = v := hv.symm
      rw [hvc] at HC
      have HZ : Hid (v = 0 → ∀ j, j < k + 1 → at3 x j = at3 y j) := Lib.hid (fun h0 j hj => by
        by_cases e : j = k
        · subst e; exact (cI_zero x y j).1 (by rw [← hv]; exact h0)
        · exact HE.out j (by omega))
      have HN : Hid (v ≠ 0 → cmpI x y = v) := Lib.hid (fun h0 => by rw [hv]; exact cmp_at hlt HE.out (by rw [← hv]; exact h0))
      generalize at3 x k = xk at *
      generalize at3 y k = yk at *
      clear hv hvc HE
      by_cases hv0 : v = 0
      · have hb : (v != 0) = false := by simp [hv0]
        have HZ2 := Lib.hid (HZ.out hv0)
        clear HZ HN
        subst hv0
        go_wp2_with fail
        refine (HC.out _).mono ?_
        rintro e w2 ⟨rfl, rfl⟩
        go_wp2
        go_roundw
        case rel => exact ⟨k + 1, by go_num, by omega, HZ2, trivial⟩
        case measure => simp [intOf]; omega
      · have hb : (v != 0) = true := by simp [hv0]
        have HV := Lib.hid (HN.out hv0)
        clear HZ HN
        go_wp2_with fail
        refine (HC.out _).mono ?_
        rintro e w2 ⟨rfl, rfl⟩
        go_wp2
        go_ret
        exact ⟨by rw [HV.out]; rfl, rfl⟩
    · have hd : decide ((k : Int) < 3) = false := decide_eq_false (by omega)
      obtain rfl : k = 3 := by omega
      have HV : Hid (cmpI x y = 0) := Lib.hid (cmp_all HE.out)
      go_wp2
      go_ret
      exact ⟨by rw [HV.out]; rfl, rfl⟩
set_option maxHeartbeats 3200000 in
set_option maxRecDepth 100000 in
theorem less_calls (x y : Ids) (w : World) : Calls Tryz.prog 92 #[.agg (idsL x).toArray, .agg (idsL y).toArray] w fun e w' => e = .returned (.int .i64 (cmpI x y)) ∧ Below w.heap.size w w' := by
  have hb : Below w.heap.size w ((w.alloc (.cells (idsL x).toArray 40)).alloc (.cells (idsL y).toArray 40)) := bel_alloc (bel_alloc (Below.refl _ _) _) _
  have hx : I3 ((w.alloc (.cells (idsL x).toArray 40)).alloc (.cells (idsL y).toArray 40)) w.heap.size 0 x := (I3.new w x).below (bel_alloc (Below.refl _ _) _)
  have hy : I3 ((w.alloc (.cells (idsL x).toArray 40)).alloc (.cells (idsL y).toArray 40)) (w.heap.size + 1) 0 y := by
    have := I3.new (w.alloc (.cells (idsL x).toArray 40)) y
    rwa [show (w.alloc (.cells (idsL x).toArray 40)).heap.size = w.heap.size + 1 by simp] at this
  have HB := Lib.hid hb
  obtain ⟨w0, hw0⟩ : ∃ w0, w0 = ((w.alloc (.cells (idsL x).toArray 40)).alloc (.cells (idsL y).toArray 40)) := ⟨_, rfl⟩
  rw [← hw0] at HB
  have HC := Lib.hid (fun (p : QT.Bel w0) c d => (compare_calls x y w.heap.size 0 (w.heap.size + 1) 0 c d p.w (hx.below (by rw [← hw0]; exact p.bel)) (hy.below (by rw [← hw0]; exact p.bel))).mono (fun e w' (h : e = .returned (.int .i64 (cmpI x y)) ∧ p.w = w') => (⟨h.1, by rw [← h.2]; exact Below.refl _ _⟩ : e = .returned (.int .i64 (cmpI x y)) ∧ Below p.w.heap.size p.w w')))
  have HW : Hid ((w.alloc (.cells (idsL x).toArray 40)).alloc (.cells (idsL y).toArray 40) = w0) := Lib.hid hw0.symm
  generalize cmpI x y = v at *
  clear hb hx hy hw0
  unfold idsL at *
  go_enter Tryz.func92, Tryz.ntmps92
  go_upto_region 1 with fail
  rw [HW.out]
  refine QT.region_all (by kernel_rfl) (by kernel_rfl) ?_
  iterate 2 (go_big_quiet_step (fail))
  go_big_quiet_step (exact QT.Bel.call _ (HC.out _ _ _))
  iterate 1 (go_big_quiet_step (fail))
  refine wpQuiet_nil ?_
  intro w2 hw'
  obtain ⟨⟨_, hb2⟩, rfl⟩ := hw'
  have HB2 := Lib.hid (bel_step HB.out hb2)
  go_wp2
  go_ret
  exact ⟨rfl, HB2.out⟩
end Go.Proofs.YtnplommdgfgboaaGreatDoor.IdsCmp
