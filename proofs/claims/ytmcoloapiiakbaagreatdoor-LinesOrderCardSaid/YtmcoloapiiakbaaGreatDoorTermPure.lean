/-
  Terms, plain: which may be, how one is shown, how two stand to one another.
-/
import Derived.Test.YtmcoloapiiakbaaGreatDoorUtf
namespace Go.Proofs.YtmcoloapiiakbaaGreatDoor.TermPure
open Go.Lib Go.Proofs.YtmcoloapiiakbaaGreatDoor.Utf

/-- A term: its kind, its text, what else. -/
structure Term where
  kind : Int
  text : List UInt8
  extra : List UInt8
deriving DecidableEq

/-- Text as runes. -/
def runesGo : Nat → List UInt8 → List Nat
  | 0, _ => []
  | n + 1, l => if l = [] then [] else (decodeL l).1 :: runesGo n (l.drop (decodeL l).2)
def runes (l : List UInt8) : List Nat := runesGo l.length l
theorem runesGo_nil : ∀ n, runesGo n [] = []
  | 0 => rfl
  | n + 1 => by rw [runesGo, if_pos rfl]
theorem runesGo_fuel : ∀ (n m : Nat) (l : List UInt8), l.length ≤ n → l.length ≤ m → runesGo n l = runesGo m l
  | 0, m, l, hn, _ => by
    have : l = [] := List.eq_nil_of_length_eq_zero (by omega)
    subst this
    rw [runesGo_nil, runesGo_nil]
  | n + 1, 0, l, _, hm => by
    have : l = [] := List.eq_nil_of_length_eq_zero (by omega)
    subst this
    rw [runesGo_nil, runesGo_nil]
  | n + 1, m + 1, l, hn, hm => by
    by_cases hne : l = []
    · subst hne; rw [runesGo_nil, runesGo_nil]
    · have hw := decodeL_width l
      have hl : 0 < l.length := List.length_pos_iff.2 hne
      rw [runesGo, runesGo, if_neg hne, if_neg hne, runesGo_fuel n m _ (by rw [List.length_drop]; omega) (by rw [List.length_drop]; omega)]
theorem runes_nil : runes [] = [] := rfl
theorem runes_step (l : List UInt8) (hne : l ≠ []) : runes l = (decodeL l).1 :: runes (l.drop (decodeL l).2) := by
  have hw := decodeL_width l
  have hl : 0 < l.length := List.length_pos_iff.2 hne
  obtain ⟨n, hn⟩ : ∃ n, l.length = n + 1 := ⟨l.length - 1, by omega⟩
  unfold runes
  rw [hn, runesGo, if_neg hne, runesGo_fuel n (l.drop (decodeL l).2).length _ (by rw [List.length_drop]; omega) (Nat.le_refl _)]
theorem runes_ascii (b : UInt8) (t : List UInt8) (h : b.toNat < 128) : runes (b :: t) = b.toNat :: runes t := by
  rw [runes_step _ (by simp), decodeL_ascii b t h]
  rfl
theorem runes_chunk {l ch t : List UInt8} {c : Nat} (h : Chunk l ch t c) : runes l = c :: runes t := by
  have hne : l ≠ [] := by
    intro e
    have h1 := h.eq
    have h2 := h.two
    rw [e] at h1
    have := congrArg List.length h1
    rw [List.length_append] at this
    simp at this
    omega
  rw [runes_step l hne, h.dec]
  dsimp only
  rw [h.eq, List.drop_left]

/-- Signs that no IRI has. -/
def odd : List Nat := [34, 60, 62, 92, 94, 96, 123, 124, 125]
def iriRune (r : Nat) : Bool := (decide (32 < r) && decide (r < 127) && !odd.contains r) || decide (160 ≤ r)
def isIRI (s : List UInt8) : Bool := decide (s ≠ []) && (decide (s.length ≤ 60) && (validD s && (runes s).all iriRune))
def alnum (r : Nat) : Bool := (decide (97 ≤ r) && decide (r ≤ 122)) || (decide (65 ≤ r) && decide (r ≤ 90)) || (decide (48 ≤ r) && decide (r ≤ 57))
def isLabel (s : List UInt8) : Bool := decide (s ≠ []) && (decide (s.length ≤ 8) && s.all fun b => alnum b.toNat)
/-- A language: parts of small letters, and behind the first of digits too, each of one byte to eight. -/
def langGo : Bool → Nat → List UInt8 → Bool
  | _, n, [] => decide (0 < n)
  | later, n, b :: l =>
    if b = 45 then decide (0 < n) && langGo true 0 l
    else if (decide (97 ≤ b.toNat) && decide (b.toNat ≤ 122)) || (later && (decide (48 ≤ b.toNat) && decide (b.toNat ≤ 57))) then decide (n < 8) && langGo later (n + 1) l
    else false
def isLang (s : List UInt8) : Bool := langGo false 0 s && decide (s.length ≤ 16)
def isText (s : List UInt8) : Bool := decide (s.length ≤ 30) && validD s
def is (t : Term) : Bool :=
  if t.kind = 1 then isIRI t.text && decide (t.extra = [])
  else if t.kind = 2 then isLabel t.text && decide (t.extra = [])
  else if t.kind = 3 then isText t.text && decide (t.extra = [])
  else if t.kind = 4 then isText t.text && isLang t.extra
  else if t.kind = 5 then isText t.text && isIRI t.extra
  else false

/-- A digit of hexadecimal. -/
def hexD (n : Nat) : UInt8 := UInt8.ofNat (if n < 10 then 48 + n else 55 + n)
/-- A byte as it stands in a literal. -/
def escB (b : UInt8) : List UInt8 :=
  if b = 34 then [92, 34] else if b = 92 then [92, 92] else if b = 10 then [92, 110] else if b = 13 then [92, 114] else if b = 9 then [92, 116] else if b = 8 then [92, 98] else if b = 12 then [92, 102]
  else if b.toNat < 32 ∨ b.toNat = 127 then [92, 117, 48, 48, hexD (b.toNat / 16), hexD (b.toNat % 16)] else [b]
def quoted (s : List UInt8) : List UInt8 := 34 :: (s.flatMap escB ++ [34])
def shown (t : Term) : List UInt8 :=
  if t.kind = 1 then 60 :: (t.text ++ [62])
  else if t.kind = 2 then 95 :: 58 :: t.text
  else if t.kind = 4 then quoted t.text ++ 64 :: t.extra
  else if t.kind = 5 then quoted t.text ++ (94 :: 94 :: 60 :: (t.extra ++ [62]))
  else quoted t.text
end Go.Proofs.YtmcoloapiiakbaaGreatDoor.TermPure
