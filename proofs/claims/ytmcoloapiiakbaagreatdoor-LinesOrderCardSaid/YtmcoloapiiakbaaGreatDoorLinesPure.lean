/-
  A line's triple, plain, by bytes.
-/
import Derived.Test.YtmcoloapiiakbaaGreatDoorTermPure
import Derived.Lib.Case
namespace Go.Proofs.YtmcoloapiiakbaaGreatDoor.LinesPure
open Go.Lib Go.Proofs.YtmcoloapiiakbaaGreatDoor.Utf Go.Proofs.YtmcoloapiiakbaaGreatDoor.TermPure

structure Triple where
  s : Term
  p : Term
  o : Term
deriving DecidableEq
def isTriple (t : Triple) : Bool := is t.s && (is t.p && (is t.o && ((decide (t.s.kind = 1) || decide (t.s.kind = 2)) && decide (t.p.kind = 1))))

def hexV (b : UInt8) : Option Nat :=
  if 48 ≤ b.toNat ∧ b.toNat ≤ 57 then some (b.toNat - 48)
  else if 97 ≤ b.toNat ∧ b.toNat ≤ 102 then some (b.toNat - 87)
  else if 65 ≤ b.toNat ∧ b.toNat ≤ 70 then some (b.toNat - 55)
  else none
/-- So many digits, the number so far. -/
def hexGo : Nat → Nat → List UInt8 → Option (Nat × List UInt8)
  | 0, v, l => some (v, l)
  | _ + 1, _, [] => none
  | n + 1, v, b :: l => match hexV b with
    | none => none
    | some d => hexGo n (v * 16 + d) l
def escV (b : UInt8) : Option UInt8 :=
  if b = 116 then some 9 else if b = 98 then some 8 else if b = 110 then some 10 else if b = 114 then some 13 else if b = 102 then some 12
  else if b = 34 then some 34 else if b = 39 then some 39 else if b = 92 then some 92 else none
def rune (r : Option (Nat × List UInt8)) : Option (List UInt8 × List UInt8) :=
  match r with
  | none => none
  | some (v, l) => if Lib.validRune (v : Int) = true then some (encodeRune (v : Int), l) else none
/-- What stands behind a backslash; what is left. -/
def esc (lit : Bool) : List UInt8 → Option (List UInt8 × List UInt8)
  | [] => none
  | b :: l =>
    if b = 117 then rune (hexGo 4 0 l)
    else if b = 85 then rune (hexGo 8 0 l)
    else if lit then match escV b with
      | some c => some ([c], l)
      | none => none
    else none
/-- Up to a sign, which is taken; nl: a line's end may not stand there. -/
def upTo (stop : UInt8) (lit nl : Bool) : Nat → List UInt8 → Option (List UInt8 × List UInt8)
  | 0, _ => none
  | _ + 1, [] => none
  | n + 1, b :: l =>
    if b = stop then some ([], l)
    else if b = 92 then match esc lit l with
      | none => none
      | some (o, r) => (upTo stop lit nl n r).map fun x => (o ++ x.1, x.2)
    else if nl = true ∧ (b = 10 ∨ b = 13) then none
    else (upTo stop lit nl n l).map fun x => (b :: x.1, x.2)
theorem hexGo_rest : ∀ (n v : Nat) (l : List UInt8) (x : Nat) (r : List UInt8), hexGo n v l = some (x, r) → r = l.drop n ∧ n ≤ l.length
  | 0, v, l, x, r, h => by
    rw [hexGo] at h
    cases h
    exact ⟨rfl, Nat.zero_le _⟩
  | n + 1, v, [], x, r, h => by rw [hexGo] at h; cases h
  | n + 1, v, b :: l, x, r, h => by
    rw [hexGo] at h
    cases hb : hexV b with
    | none => rw [hb] at h; cases h
    | some d =>
      rw [hb] at h
      obtain ⟨h1, h2⟩ := hexGo_rest n _ l x r h
      exact ⟨h1, by simp; omega⟩
theorem hexGo_len (n v : Nat) (l : List UInt8) (x : Nat) (r : List UInt8) (h : hexGo n v l = some (x, r)) : r.length ≤ l.length := by
  obtain ⟨rfl, _⟩ := hexGo_rest n v l x r h
  simp
theorem rune_len (n : Nat) (l o r : List UInt8) (h : rune (hexGo n 0 l) = some (o, r)) : r.length ≤ l.length := by
  cases hg : hexGo n 0 l with
  | none => rw [hg, rune] at h; cases h
  | some p =>
    obtain ⟨v, q⟩ := p
    rw [hg, rune] at h
    have := hexGo_len _ _ _ _ _ hg
    split at h
    · cases h; exact this
    · cases h
theorem esc_len (lit : Bool) (l o r : List UInt8) (h : esc lit l = some (o, r)) : r.length < l.length := by
  cases l with
  | nil => cases h
  | cons b t =>
    have key : r.length ≤ t.length := by
      rw [esc] at h
      split at h
      · exact rune_len _ _ _ _ h
      · split at h
        · exact rune_len _ _ _ _ h
        · split at h
          · split at h
            · cases h; exact Nat.le_refl _
            · cases h
          · cases h
    simp
    omega
theorem encodeRune_len (r : Int) : (encodeRune r).length ≤ 4 := by
  unfold encodeRune encodeRuneZ
  repeat' split
  all_goals simp
theorem esc_len2 (lit : Bool) (l o r : List UInt8) (h : esc lit l = some (o, r)) : o.length + r.length ≤ l.length := by
  have num : ∀ (n : Nat) (t : List UInt8), 4 ≤ n → rune (hexGo n 0 t) = some (o, r) → o.length + r.length ≤ t.length := by
    intro n t hn h
    cases hg : hexGo n 0 t with
    | none => rw [hg, rune] at h; cases h
    | some p =>
      obtain ⟨v, q⟩ := p
      rw [hg, rune] at h
      obtain ⟨rfl, h2⟩ := hexGo_rest n 0 t v q hg
      split at h
      · cases h
        have := encodeRune_len (v : Int)
        simp
        omega
      · cases h
  cases l with
  | nil => cases h
  | cons b t =>
    rw [esc] at h
    split at h
    · have := num 4 t (by decide) h
      simp
      omega
    · split at h
      · have := num 8 t (by decide) h
        simp
        omega
      · split at h
        · split at h
          · cases h; simp; omega
          · cases h
        · cases h
theorem upTo_fuel (stop : UInt8) (lit nl : Bool) : ∀ (n m : Nat) (l : List UInt8), l.length < n → l.length < m → upTo stop lit nl n l = upTo stop lit nl m l
  | 0, m, l, h, _ => by omega
  | n + 1, 0, l, _, h => by omega
  | n + 1, m + 1, [], _, _ => rfl
  | n + 1, m + 1, b :: l, hn, hm => by
    simp at hn hm
    rw [upTo, upTo]
    split
    · rfl
    · split
      · cases he : esc lit l with
        | none => rfl
        | some p =>
          obtain ⟨o, r⟩ := p
          have := esc_len lit l o r he
          dsimp only
          rw [upTo_fuel stop lit nl n m r (by omega) (by omega)]
      · split
        · rfl
        · rw [upTo_fuel stop lit nl n m l (by omega) (by omega)]
/-- Up to a sign. -/
def up (stop : UInt8) (lit nl : Bool) (l : List UInt8) : Option (List UInt8 × List UInt8) := upTo stop lit nl (l.length + 1) l
theorem up_nil (stop : UInt8) (lit nl : Bool) : up stop lit nl [] = none := rfl
theorem up_stop (stop : UInt8) (lit nl : Bool) (l : List UInt8) : up stop lit nl (stop :: l) = some ([], l) := by rw [up, upTo, if_pos rfl]
theorem up_esc_none (stop : UInt8) (lit nl : Bool) (b : UInt8) (l : List UInt8) (h : b ≠ stop) (h1 : b = 92) (he : esc lit l = none) : up stop lit nl (b :: l) = none := by
  rw [up, upTo, if_neg h, if_pos h1, he]
theorem up_esc (stop : UInt8) (lit nl : Bool) (b : UInt8) (l o r : List UInt8) (h : b ≠ stop) (h1 : b = 92) (he : esc lit l = some (o, r)) : up stop lit nl (b :: l) = (up stop lit nl r).map fun x => (o ++ x.1, x.2) := by
  have := esc_len lit l o r he
  rw [up, upTo, if_neg h, if_pos h1, he]
  dsimp only
  rw [up, upTo_fuel stop lit nl (b :: l).length (r.length + 1) r (by simp; omega) (by omega)]
theorem up_line (stop : UInt8) (lit nl : Bool) (b : UInt8) (l : List UInt8) (h : b ≠ stop) (h1 : b ≠ 92) (h2 : nl = true ∧ (b = 10 ∨ b = 13)) : up stop lit nl (b :: l) = none := by
  rw [up, upTo, if_neg h, if_neg h1, if_pos h2]
theorem up_other (stop : UInt8) (lit nl : Bool) (b : UInt8) (l : List UInt8) (h : b ≠ stop) (h1 : b ≠ 92) (h2 : ¬ (nl = true ∧ (b = 10 ∨ b = 13))) : up stop lit nl (b :: l) = (up stop lit nl l).map fun x => (b :: x.1, x.2) := by
  rw [up, upTo, if_neg h, if_neg h1, if_neg h2]
  rfl

def blank (b : UInt8) : Bool := b == 32 || b == 9
def blanks (l : List UInt8) : List UInt8 := l.dropWhile blank
def inRun (dash : Bool) (b : UInt8) : Bool := alnum b.toNat || (dash && b == 45)
def run (dash : Bool) (l : List UInt8) : List UInt8 × List UInt8 := (l.takeWhile (inRun dash), l.dropWhile (inRun dash))
/-- A literal behind its sign; ref: the reference's way. -/
def literal (ref : Bool) (l : List UInt8) : Option (Term × List UInt8) :=
  match up 34 true true l with
  | none => none
  | some (t, r) =>
    if [64].isPrefixOf r = true then some (⟨4, t, toLowerA (run true (r.drop 1)).1⟩, (run true (r.drop 1)).2)
    else if [94, 94].isPrefixOf r = true then
      if [60].isPrefixOf (r.drop 2) = true then (up 62 false ref (r.drop 3)).map fun x => (⟨5, t, x.1⟩, x.2)
      else if ref = true then some (⟨3, t, []⟩, r) else none
    else some (⟨3, t, []⟩, r)
/-- A term; no check whether it may be. -/
def rawTerm (ref : Bool) (l : List UInt8) : Option (Term × List UInt8) :=
  if [60].isPrefixOf l = true then (up 62 false ref (l.drop 1)).map fun x => (⟨1, x.1, []⟩, x.2)
  else if [95, 58].isPrefixOf l = true then some (⟨2, (run false (l.drop 2)).1, []⟩, (run false (l.drop 2)).2)
  else if [34].isPrefixOf l = true then literal ref (l.drop 1)
  else none
def term (ref : Bool) (l : List UInt8) : Option (Term × List UInt8) :=
  match rawTerm ref l with
  | none => none
  | some (t, r) => if is t = true then some (t, r) else none
def over (l : List UInt8) : Bool := decide (l = []) || [35].isPrefixOf l
/-- A line: none: it is no line; some none: it has no triple. -/
def lineOf (ref : Bool) (s : List UInt8) : Option (Option Triple) :=
  if validD s = false then none
  else if over (blanks s) = true then some none
  else match term ref (blanks s) with
    | none => none
    | some (a, r) => match term ref (blanks r) with
      | none => none
      | some (p, r) => match term ref (blanks r) with
        | none => none
        | some (o, r) =>
          if [46].isPrefixOf (blanks r) = true ∧ over (blanks ((blanks r).drop 1)) = true ∧ isTriple ⟨a, p, o⟩ = true then some (some ⟨a, p, o⟩) else none
end Go.Proofs.YtmcoloapiiakbaaGreatDoor.LinesPure
