/-
  Runes as bytes: what the model's own words are, in the library's.
-/
import Derived.Test.YtmcoloapiiakbaaDoorRd
import Derived.Test.YtmcoloapiiakbaaDoorTermPure
import Derived.Laws.Cover4
import Derived.Laws.IdiomStrings
import Derived.Lib.TrimUEq
set_option linter.unusedVariables false
set_option linter.unusedSimpArgs false
namespace Go.Proofs.YtmcoloapiiakbaaDoor.Tx
open Go.RowKit Go.Lib Go.Proofs.YtmcoloapiiakbaaDoor.B Go.Proofs.YtmcoloapiiakbaaDoor.Rd Go.Proofs.YtmcoloapiiakbaaDoor.Utf Go.Proofs.YtmcoloapiiakbaaDoor.TermPure

theorem encode_eq (n : Nat) (hv : Lib.validRune (n : Int) = true) : Utf8.encode (n : Int) = mkS (encodeRune (n : Int)) := by
  unfold Lib.validRune at hv
  rw [decide_eq_true_iff] at hv
  have hval : Utf8.valid (n : Int) = true := by
    unfold Utf8.valid
    simp
    omega
  unfold Utf8.encode
  rw [hval]
  simp only [if_true, Int.toNat_natCast]
  by_cases h1 : n < 128
  · rw [if_pos h1, encodeRune, encodeRuneZ_one (by omega) (by omega)]
    rfl
  · rw [if_neg h1]
    by_cases h2 : n < 2048
    · rw [if_pos h2, encodeRune, encodeRuneZ_two (by omega) (by omega)]
      rfl
    · rw [if_neg h2]
      by_cases h3 : n < 65536
      · rw [if_pos h3, encodeRune, encodeRuneZ_three (by omega)]
        rfl
      · rw [if_neg h3, encodeRune]
        have : encodeRuneZ (n : Int) = [240 + (n : Int) / 262144, 128 + (n : Int) / 4096 % 64, 128 + (n : Int) / 64 % 64, 128 + (n : Int) % 64] := by
          unfold encodeRuneZ
          rw [if_neg (by omega), if_neg (by omega), if_neg (by omega), if_pos (by omega)]
        rw [this]
        rfl
theorem runesBytes_one (n : Nat) (hv : Lib.validRune (n : Int) = true) : runesBytes [(n : Int)] = mkS (encodeRune (n : Int)) := by
  show ByteArray.empty ++ Utf8.encode (n : Int) = _
  rw [encode_eq n hv, show ByteArray.empty = mkS [] from rfl, mkS_append]
  rfl
theorem runesFrom_eq (l : List UInt8) : ∀ (f i : Nat) (acc : Array Value), l.length ≤ i + f → Conv.runesFrom (mkS l) f i acc = acc ++ ((runesGo f (l.drop i)).map fun (c : Nat) => Value.int .i32 (c : Int)).toArray
  | 0, i, acc, h => by
    rw [show l.drop i = [] from List.drop_eq_nil_of_le (by omega)]
    simp [Conv.runesFrom, runesGo]
  | f + 1, i, acc, h => by
    have hd : decodeL (l.drop i) = Utf8.decode (mkS l) i := decodeL_drop (mkS l) i
    unfold Conv.runesFrom
    rw [mkS_size]
    by_cases hi : i < l.length
    · have hne : l.drop i ≠ [] := by
        intro h0
        have := congrArg List.length h0
        rw [List.length_drop] at this
        simp at this
        omega
      have hw := decodeL_width (l.drop i)
      rw [if_pos hi, ← hd, runesGo, if_neg hne]
      generalize decodeL (l.drop i) = D at *
      obtain ⟨c, k⟩ := D
      dsimp only at *
      rw [runesFrom_eq l f (i + k) _ (by omega), List.drop_drop]
      simp
    · rw [if_neg hi, show l.drop i = [] from List.drop_eq_nil_of_le (by omega), runesGo_nil]
      simp
theorem runesFrom_all (l : List UInt8) : Conv.runesFrom (mkS l) (mkS l).size 0 #[] = ((runes l).map fun (c : Nat) => Value.int .i32 (c : Int)).toArray := by
  rw [mkS_size, runesFrom_eq l _ 0 #[] (by omega)]
  simp [runes]
theorem runesGo_len : ∀ (f : Nat) (l : List UInt8), (runesGo f l).length ≤ l.length
  | 0, l => by simp [runesGo]
  | f + 1, l => by
    rw [runesGo]
    split
    · simp
    · rename_i h
      have hw := decodeL_width l
      have hl : 0 < l.length := List.length_pos_iff.2 h
      have := runesGo_len f (l.drop (decodeL l).2)
      rw [List.length_drop] at this
      simp
      omega
theorem runes_len (l : List UInt8) : (runes l).length ≤ l.length := runesGo_len _ _
end Go.Proofs.YtmcoloapiiakbaaDoor.Tx
