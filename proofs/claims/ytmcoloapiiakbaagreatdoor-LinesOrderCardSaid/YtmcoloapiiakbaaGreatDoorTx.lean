/-
  Runes as bytes: what the model's own words are, in the library's.
-/
import Derived.Test.YtmcoloapiiakbaaGreatDoorRd
import Derived.Test.YtmcoloapiiakbaaGreatDoorTermPure
import Derived.Laws.Cover4
import Derived.Laws.IdiomStrings
import Derived.Lib.TrimUEq
set_option linter.unusedVariables false
set_option linter.unusedSimpArgs false
namespace Go.Proofs.YtmcoloapiiakbaaGreatDoor.Tx
open Go.RowKit Go.Lib Go.Proofs.YtmcoloapiiakbaaGreatDoor.B Go.Proofs.YtmcoloapiiakbaaGreatDoor.Rd Go.Proofs.YtmcoloapiiakbaaGreatDoor.Utf Go.Proofs.YtmcoloapiiakbaaGreatDoor.TermPure

theorem encode_eq (n : Nat) (hv : Lib.validRune (n : Int) = true) : Utf8.encode (n : Int) = mkS (encodeRune (n : Int)) := by
  unfold Lib.validRune at hv
  rw [decide_eq_true_iff] at hv
  have hval : Utf8.valid (n : Int) = true := by
    unfold Utf8.valid
    simp
    omega
  unfold Utf8.encode
  rw [hval]
  simp only [if_true, Int.toNat_natCast]
  by_cases h1 : n < 128
  · rw [if_pos h1, encodeRune, encodeRuneZ_one (by omega) (by omega)]
    rfl
  · rw [if_neg h1]
    by_cases h2 : n < 2048
    · rw [if_pos h2, encodeRune, encodeRuneZ_two (by omega) (by omega)]
      rfl
    · rw [if_neg h2]
      by_cases h3 : n < 65536
      · rw [if_pos h3, encodeRune, encodeRuneZ_three (by omega)]
        rfl
      · rw [if_neg h3, encodeRune]
        have : encodeRuneZ (n : Int) = [240 + (n : Int) / 262144, 128 + (n : Int) / 4096 % 64, 128 + (n : Int) / 64 % 64, 128 + (n : Int) % 64] := by
          unfold encodeRuneZ
          rw [if_neg (by omega), if_neg (by omega), if_neg (by omega), if_pos (by omega)]
        rw [this]
        rfl
theorem runesBytes_one (n : Nat) (hv : Lib.validRune (n : Int) = true) : runesBytes [(n : Int)] = mkS (encodeRune (n : Int)) := by
  show ByteArray.empty ++ Utf8.encode (n : Int) = _
  rw [encode_eq n hv, show ByteArray.empty = mkS [] from rfl, mkS_append]
  rfl
theorem runesFrom_eq (l : List UInt8) : ∀ (f i : Nat) (acc : Array Value), l.length ≤ i + f → Conv.runesFrom (mkS l) f i acc = acc ++ ((runesGo f (l.drop i)).map fun (c : Nat) => Value.int .i32 (c : Int)).toArray
  | 0, i, acc, h => by
    rw [show l.drop i = [] from List.drop_eq_nil_of_le (by omega)]
    simp [Conv.runesFrom, runesGo]
  | f + 1, i, acc, h => by
    have hd : decodeL (l.drop i) = Utf8.decode (mkS l) i := decodeL_drop (mkS l) i
    unfold Conv.runesFrom
    rw [mkS_size]
    by_cases hi : i < l.length
    · have hne : l.drop i ≠ [] := by
        intro h0
        have := congrArg List.length h0
        rw [List.length_drop] at this
        simp at this
        omega
      have hw := decodeL_width (l.drop i)
      rw [if_pos hi, ← hd, runesGo, if_neg hne]
      generalize decodeL (l.drop i) = D at *
      obtain ⟨c, k⟩ := D
      dsimp only at *
      rw [runesFrom_eq l f (i + k) _ (by omega), List.drop_drop]
      simp
    · rw [if_neg hi, show l.drop i = [] from List.drop_eq_nil_of_le (by omega), runesGo_nil]
      simp
theorem runesFrom_all (l : List UInt8) : Conv.runesFrom (mkS l) (mkS l).size 0 #[] = ((runes l).map fun (c : Nat) => Value.int .i32 (c : Int)).toArray := by
  rw [mkS_size, runesFrom_eq l _ 0 #[] (by omega)]
  simp [runes]
theorem runesGo_len : ∀ (f : Nat) (l : List UInt8), (runesGo f l).length ≤ l.length
  | 0, l => by simp [runesGo]
  | f + 1, l => by
    rw [runesGo]
    split
    · simp
    · rename_i h
      have hw := decodeL_width l
      have hl : 0 < l.length := List.length_pos_iff.2 h
      have := runesGo_len f (l.drop (decodeL l).2)
      rw [List.length_drop] at this
      simp
      omega
theorem runes_len (l : List UInt8) : (runes l).length ≤ l.length := runesGo_len _ _
theorem conv_rune (n : Nat) (hv : Lib.validRune (n : Int) = true) (W : World) :
    Sem.run Tryz.prog (convert 76 9 (.slice (some ⟨W.heap.size, 0, none⟩) 1 1)) (W.alloc (.cells #[.int .i32 (n : Int)] 21)) = .ok (.string (mkS (encodeRune (n : Int)))) (W.alloc (.cells #[.int .i32 (n : Int)] 21)) := by
  have h := run_convert_runes (P := Tryz.prog) (W.alloc (.cells #[.int .i32 (n : Int)] 21)) 76 9 21 ⟨W.heap.size, 0, none⟩ 1 1 [(n : Int)] (by simp) Tryz.underlying76 Tryz.underlying21 Tryz.underlying9
    (fun j hj => by
      obtain rfl : j = 0 := by simp at hj; exact hj
      rw [Addr.add_zero']
      unfold World.cell?; dsimp only; rw [Kd.heap_new]; rfl)
  rw [h]
  simp only [List.take_succ_cons, List.take_zero]
  rw [runesBytes_one n hv]
end Go.Proofs.YtmcoloapiiakbaaGreatDoor.Tx
