/-
  What the reference of lines answers: escapes.
-/
import Derived.Test.YtmcoloapiiakbaaDoorRef5
import Derived.Test.YtmcoloapiiakbaaDoorTx
import Derived.IntWalk
set_option linter.unusedVariables false
set_option linter.unusedSimpArgs false
namespace Go.Proofs.YtmcoloapiiakbaaDoor.Ref5
open Go.RowKit Go.Lib Go.Proofs.YtmcoloapiiakbaaDoor.B Go.Proofs.YtmcoloapiiakbaaDoor.Rd Go.Proofs.YtmcoloapiiakbaaDoor.Utf Go.Proofs.YtmcoloapiiakbaaDoor.TermPure Go.Proofs.YtmcoloapiiakbaaDoor.LinesPure Go.Proofs.YtmcoloapiiakbaaDoor.Tx

/-- The rune that so many digits are; -1: they are none. -/
def hexR (n : Nat) (s : List UInt8) : Int := match hexGo n 0 s with
  | none => -1
  | some (v, _) => if Lib.validRune (v : Int) = true then (v : Int) else -1
theorem hexGo_short : ∀ (n v : Nat) (l : List UInt8), l.length < n → hexGo n v l = none
  | 0, v, l, h => by omega
  | n + 1, v, [], h => rfl
  | n + 1, v, b :: l, h => by
    rw [hexGo]
    cases hexV b with
    | none => rfl
    | some d => exact hexGo_short n _ l (by simp at h; omega)
theorem hexV_digit (b : UInt8) (h1 : 48 ≤ b.toNat) (h2 : b.toNat ≤ 57) : hexV b = some (b.toNat - 48) := by rw [hexV, if_pos ⟨h1, h2⟩]
theorem hexV_small (b : UInt8) (h1 : 97 ≤ b.toNat) (h2 : b.toNat ≤ 102) : hexV b = some (b.toNat - 87) := by rw [hexV, if_neg (by omega), if_pos ⟨h1, h2⟩]
theorem hexV_cap (b : UInt8) (h1 : 65 ≤ b.toNat) (h2 : b.toNat ≤ 70) : hexV b = some (b.toNat - 55) := by rw [hexV, if_neg (by omega), if_neg (by omega), if_pos ⟨h1, h2⟩]
theorem hexV_none (b : UInt8) (h1 : ¬ (48 ≤ b.toNat ∧ b.toNat ≤ 57)) (h2 : ¬ (97 ≤ b.toNat ∧ b.toNat ≤ 102)) (h3 : ¬ (65 ≤ b.toNat ∧ b.toNat ≤ 70)) : hexV b = none := by rw [hexV, if_neg h1, if_neg h2, if_neg h3]
theorem pow16 {k v : Nat} (hk : k ≤ 8) (h : v < 16 ^ k) : v ≤ 4294967295 := by
  have : 16 ^ k ≤ 16 ^ 8 := Nat.pow_le_pow_right (by omega) hk
  have e : 16 ^ 8 = 4294967296 := by decide
  omega
theorem pow16_step {k v d : Nat} (h : v < 16 ^ k) (hd : d ≤ 15) : v * 16 + d < 16 ^ (k + 1) := by
  rw [Nat.pow_succ]
  omega
/-- What the reference tells of what stands behind a backslash. -/
def EscIs (lit : Bool) (s o : List UInt8) (n : Nat) : Prop := (n = 0 ∧ o = [] ∧ esc lit s = none) ∨ (0 < n ∧ n ≤ s.length ∧ esc lit s = some (o, s.drop n) ∧ o.length ≤ n)
theorem rune_cases (n : Nat) (t : List UInt8) : (hexR n t = -1 ∧ rune (hexGo n 0 t) = none) ∨ (∃ v : Nat, hexR n t = (v : Int) ∧ Lib.validRune (v : Int) = true ∧ n ≤ t.length ∧ rune (hexGo n 0 t) = some (encodeRune (v : Int), t.drop n)) := by
  unfold hexR
  cases h : hexGo n 0 t with
  | none => exact .inl ⟨rfl, rfl⟩
  | some p =>
    obtain ⟨v, r⟩ := p
    obtain ⟨rfl, h2⟩ := hexGo_rest n 0 t v r h
    dsimp only
    by_cases hv : Lib.validRune (v : Int) = true
    · right
      exact ⟨v, by rw [if_pos hv], hv, h2, by rw [rune, if_pos hv]⟩
    · left
      exact ⟨by rw [if_neg hv], by rw [rune, if_neg hv]⟩
def escF : List UInt8 := [34, 92, 110, 114, 116, 98, 102, 39]
def escT : List UInt8 := [34, 92, 10, 13, 9, 8, 12, 39]
theorem escV_at : ∀ k : Nat, (h : k < 8) → escV (escF[k]'h) = some (escT[k]'h) := by decide
theorem escV_not (b : UInt8) (h : ∀ k : Nat, (hk : k < 8) → escF[k]'hk ≠ b) : escV b = none := by
  have h0 := h 0 (by decide); have h1 := h 1 (by decide); have h2 := h 2 (by decide); have h3 := h 3 (by decide)
  have h4 := h 4 (by decide); have h5 := h 5 (by decide); have h6 := h 6 (by decide); have h7 := h 7 (by decide)
  simp [escF] at h0 h1 h2 h3 h4 h5 h6 h7
  unfold escV
  rw [if_neg (fun e => h4 e.symm), if_neg (fun e => h5 e.symm), if_neg (fun e => h2 e.symm), if_neg (fun e => h3 e.symm), if_neg (fun e => h6 e.symm), if_neg (fun e => h0 e.symm), if_neg (fun e => h7 e.symm), if_neg (fun e => h1 e.symm)]
theorem esc_other (b : UInt8) (t : List UInt8) (lit : Bool) (h1 : b.toNat ≠ 117) (h2 : b.toNat ≠ 85) : esc lit (b :: t) = if lit then (match escV b with
      | some c => some ([c], t)
      | none => none) else none := by
  rw [esc, if_neg (fun e => h1 (by rw [e]; rfl)), if_neg (fun e => h2 (by rw [e]; rfl))]
  rfl
end Go.Proofs.YtmcoloapiiakbaaDoor.Ref5
