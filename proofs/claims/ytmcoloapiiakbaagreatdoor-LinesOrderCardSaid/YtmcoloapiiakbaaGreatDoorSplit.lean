/-
  Text parted at a sign; languages by their parts.
-/
import Derived.Test.YtmcoloapiiakbaaGreatDoorRd
import Derived.Test.YtmcoloapiiakbaaGreatDoorTermPure
import Derived.Lib.SplitLaws
import Derived.Lib.CountLaws
import Derived.Lib.IndexLaws
set_option linter.unusedVariables false
set_option linter.unusedSimpArgs false
namespace Go.Proofs.YtmcoloapiiakbaaGreatDoor.SplitP
open Go.Lib Go.Proofs.YtmcoloapiiakbaaGreatDoor.B Go.Proofs.YtmcoloapiiakbaaGreatDoor.Rd Go.Proofs.YtmcoloapiiakbaaGreatDoor.TermPure

/-- The parts between dashes. -/
def splitL : List UInt8 → List (List UInt8)
  | [] => [[]]
  | b :: l => if b = 45 then [] :: splitL l else match splitL l with
    | [] => [[b]]
    | h :: t => (b :: h) :: t
theorem splitL_ne : ∀ l, splitL l ≠ []
  | [] => by simp [splitL]
  | b :: l => by
    rw [splitL]
    split
    · simp
    · split <;> simp
theorem splitL_none : ∀ l : List UInt8, (∀ b ∈ l, b ≠ 45) → splitL l = [l]
  | [], _ => rfl
  | b :: l, h => by rw [splitL, if_neg (h b (by simp)), splitL_none l (fun x hx => h x (by simp [hx]))]
theorem splitL_at : ∀ (a r : List UInt8), (∀ b ∈ a, b ≠ 45) → splitL (a ++ 45 :: r) = a :: splitL r
  | [], r, _ => by rw [List.nil_append, splitL, if_pos rfl]
  | b :: a, r, h => by rw [List.cons_append, splitL, if_neg (h b (by simp)), splitL_at a r (fun x hx => h x (by simp [hx]))]
theorem split_dash : ∀ (n : Nat) (l : List UInt8), l.length ≤ n → splitB (mkS [45]) 0 (countB (mkS l) (mkS [45])) (mkS l) = (splitL l).map mkS
  | n, l, hn => by
    have hi : indexB (mkS l) (mkS [45]) = indexByte l 45 := Lib.one (mkS l) (mkS [45]) rfl
    have hge := indexByte_ge l 45
    by_cases hm : indexByte l 45 = -1
    · have hno := indexByte_none hm
      have hall : ∀ b ∈ l, b ≠ 45 := fun b hb e => by
        obtain ⟨k, hk⟩ := List.mem_iff_getElem?.1 hb
        exact hno k (by rw [hk, e])
      rw [countB_miss _ _ (by rw [hi, hm]), splitB_zero, splitL_none l hall]
      rfl
    · obtain ⟨i, hio⟩ : ∃ i : Nat, indexByte l 45 = i := ⟨(indexByte l 45).toNat, by omega⟩
      obtain ⟨h1, h2⟩ := indexByte_some hio
      have hil : i < l.length := (List.getElem?_eq_some_iff.1 h1).1
      have hl : l = l.take i ++ 45 :: l.drop (i + 1) := by
        conv => lhs; rw [← List.take_append_drop i l]
        rw [List.drop_eq_getElem_cons hil, (List.getElem?_eq_some_iff.1 h1).2]
      have hno : ∀ b ∈ l.take i, b ≠ 45 := fun b hb e => by
        obtain ⟨k, hk⟩ := List.mem_iff_getElem?.1 hb
        rw [List.getElem?_take] at hk
        split at hk
        · rename_i hki
          exact h2 k hki (by rw [hk, e])
        · cases hk
      have hex : (mkS l).extract (i + (mkS [45]).size) (mkS l).size = mkS (l.drop (i + 1)) := by
        rw [mkS_extract, mkS_size, show (mkS [45]).size = 1 from rfl, List.take_of_length_le (by simp)]
      cases n with
      | zero => omega
      | succ n =>
        have ih := split_dash n (l.drop (i + 1)) (by rw [List.length_drop]; omega)
        rw [countB_hit _ _ i (by decide) (by rw [hi, hio]), hex, Nat.add_comm 1, splitB_hit _ _ _ _ i (by rw [hi, hio]), hex, ih, mkS_extract]
        conv => rhs; rw [hl]
        rw [splitL_at _ _ hno]
        simp
def okc (later : Bool) (b : UInt8) : Bool := (decide (97 ≤ b.toNat) && decide (b.toNat ≤ 122)) || (later && (decide (48 ≤ b.toNat) && decide (b.toNat ≤ 57)))
def partOk (later : Bool) (p : List UInt8) : Bool := !p.isEmpty && (decide (p.length ≤ 8) && p.all (okc later))
theorem lang_parts : ∀ (l : List UInt8) (later : Bool) (n : Nat), n ≤ 8 → ∀ h t, splitL l = h :: t → langGo later n l = (decide (0 < n + h.length) && (decide (n + h.length ≤ 8) && (h.all (okc later) && t.all (partOk true))))
  | [], later, n, hn, h, t, hs => by
    rw [splitL] at hs
    cases hs
    rw [langGo]
    simp
    intro _
    exact hn
  | b :: l, later, n, hn, h, t, hs => by
    rw [splitL] at hs
    rw [langGo]
    by_cases hb : b = 45
    · rw [if_pos hb] at hs
      rw [if_pos hb]
      cases hs
      cases hl : splitL l with
      | nil => exact absurd hl (splitL_ne l)
      | cons h2 t2 =>
        rw [lang_parts l true 0 (by omega) h2 t2 hl, List.all_cons]
        have : partOk true h2 = (decide (0 < 0 + h2.length) && (decide (0 + h2.length ≤ 8) && h2.all (okc true))) := by
          unfold partOk
          rw [Nat.zero_add]
          cases h2 <;> simp
        rw [this]
        simp only [List.length_nil, Nat.add_zero, List.all_nil, Bool.true_and, decide_eq_true hn, Bool.and_assoc]
    · rw [if_neg hb] at hs
      rw [if_neg hb]
      cases hl : splitL l with
      | nil => exact absurd hl (splitL_ne l)
      | cons h2 t2 =>
        rw [hl] at hs
        cases hs
        have hc : ((decide (97 ≤ b.toNat) && decide (b.toNat ≤ 122)) || (later && (decide (48 ≤ b.toNat) && decide (b.toNat ≤ 57)))) = okc later b := rfl
        rw [hc, List.all_cons]
        cases ho : okc later b with
        | false => simp
        | true =>
          rw [if_pos rfl]
          by_cases h8 : n < 8
          · rw [lang_parts l later (n + 1) (by omega) h2 _ hl, decide_eq_true h8]
            rw [List.length_cons, show n + 1 + h2.length = n + (h2.length + 1) by omega]
            simp only [Bool.true_and]
          · rw [decide_eq_false h8]
            simp
            intro _ h9
            omega
theorem isLang_parts (s : List UInt8) : ∀ h t, splitL s = h :: t → isLang s = ((partOk false h && t.all (partOk true)) && decide (s.length ≤ 16)) := by
  intro h t hs
  unfold isLang
  rw [lang_parts s false 0 (by omega) h t hs]
  congr 1
  unfold partOk
  rw [Nat.zero_add]
  cases h <;> simp [Bool.and_assoc]
theorem splitL_count : ∀ s : List UInt8, (splitL s).length ≤ s.length + 1
  | [] => by simp [splitL]
  | b :: l => by
    have ih := splitL_count l
    rw [splitL]
    split
    · simp
      exact ih
    · split
      · simp
      · rename_i h t hs
        rw [hs] at ih
        simp at ih ⊢
        omega
theorem splitL_len : ∀ s : List UInt8, ∀ x ∈ splitL s, x.length ≤ s.length
  | [], x, hx => by
    rw [splitL] at hx
    simp at hx
    subst hx
    simp
  | b :: l, x, hx => by
    have ih := splitL_len l
    rw [splitL] at hx
    split at hx
    · rcases List.mem_cons.1 hx with rfl | hx
      · simp
      · have := ih x hx
        simp
        omega
    · split at hx
      · simp at hx
        subst hx
        simp
      · rename_i h t hs
        rw [hs] at ih
        rcases List.mem_cons.1 hx with rfl | hx
        · have := ih h (by simp)
          simp
          exact this
        · have := ih x (by simp [hx])
          simp
          omega
end Go.Proofs.YtmcoloapiiakbaaGreatDoor.SplitP
