/-
  Valid UTF-8, a rune at a time: an ASCII byte, or a chunk of bytes that are all beyond ASCII.
-/
import Derived.Lib.MapLaws
import Derived.Lib.ValidLaws
import Derived.Lib.TrimAscii
namespace Go.Proofs.YtmcoloapiiakbaaGreatDoor.Utf
open Go.Lib

/-- One rune ahead of valid text. -/
structure Chunk (l ch t : List UInt8) (c : Nat) : Prop where
  eq : l = ch ++ t
  dec : decodeL l = (c, ch.length)
  ge : 128 ≤ c
  le : c ≤ 1114111
  high : ∀ b ∈ ch, 128 ≤ b.toNat
  two : 2 ≤ ch.length
  four : ch.length ≤ 4
  enc : encodeRune (c : Int) = ch
  rlen : runeLen (c : Int) = (ch.length : Int)
  valid : Lib.validRune (c : Int) = true
  rest : validD t = true

theorem len_take (l : List UInt8) (k : Nat) (h : k ≤ l.length) : (l.take k).length = k := by simp; omega
theorem step (l : List UInt8) (hne : l ≠ []) (hv : validD l = true) :
    (∃ b t, l = b :: t ∧ b.toNat < 128 ∧ decodeL l = (b.toNat, 1) ∧ validD t = true) ∨ ∃ ch t c, Chunk l ch t c := by
  have hs := validD_step l hne
  rw [hv] at hs
  have hbad : ¬ ((decodeL l).1 = 65533 ∧ (decodeL l).2 = 1) := fun h => by rw [if_pos h] at hs; cases hs
  rw [if_neg hbad] at hs
  have hl : 0 < l.length := List.length_pos_iff.2 hne
  have henc := encode_decode l hne hbad
  have hle := decodeL_le l hne
  obtain ⟨b0, t0, rfl⟩ : ∃ b t, l = b :: t := by cases l with
    | nil => exact absurd rfl hne
    | cons b t => exact ⟨b, t, rfl⟩
  by_cases ha : b0.toNat < 128
  · left
    have hd := decodeL_ascii b0 t0 ha
    rw [hd] at hs
    exact ⟨b0, t0, rfl, ha, hd, hs.symm⟩
  · right
    have k0 := b0.toNat_lt
    have hN := decodeL_N (b0 :: t0)
    have hN' := hN
    rw [List.getD_cons_zero] at hN'
    have sh := decodeN_shape (b0 :: t0).length b0.toNat ((b0 :: t0).getD 1 0).toNat ((b0 :: t0).getD 2 0).toNat ((b0 :: t0).getD 3 0).toNat
    rw [← hN'] at sh
    generalize hD : decodeL (b0 :: t0) = D at *
    obtain ⟨c, k⟩ := D
    dsimp only at *
    have key : 128 ≤ c ∧ c ≤ 1114111 ∧ 2 ≤ k ∧ k ≤ 4 ∧ (∀ b ∈ (b0 :: t0).take k, 128 ≤ b.toNat) ∧ runeLen (c : Int) = (k : Int) ∧ Lib.validRune (c : Int) = true := by
      rcases sh with ⟨c1, e⟩ | ⟨c1, c2, c3, cv, e⟩ | ⟨c1, c2, c3, c4, cv, cs, e⟩ | ⟨c1, c2, c3, c4, c5, cv, cw, e⟩ | e
      · omega
      · simp only [Prod.mk.injEq] at e
        obtain ⟨e1, rfl⟩ := e
        refine ⟨by omega, by omega, by omega, by omega, ?_, ?_, ?_⟩
        · rw [takeB _ c2]
          intro b hb
          simp only [List.mem_cons, List.not_mem_nil, or_false] at hb
          rcases hb with rfl | rfl
          · omega
          · omega
        · unfold runeLen; repeat' split
          all_goals omega
        · unfold Lib.validRune; rw [decide_eq_true_iff]; omega
      · simp only [Prod.mk.injEq] at e
        obtain ⟨e1, rfl⟩ := e
        refine ⟨by omega, by omega, by omega, by omega, ?_, ?_, ?_⟩
        · rw [takeC _ c2]
          intro b hb
          simp only [List.mem_cons, List.not_mem_nil, or_false] at hb
          rcases hb with rfl | rfl | rfl
          · omega
          · omega
          · omega
        · unfold runeLen; repeat' split
          all_goals omega
        · unfold Lib.validRune; rw [decide_eq_true_iff]; omega
      · simp only [Prod.mk.injEq] at e
        obtain ⟨e1, rfl⟩ := e
        refine ⟨by omega, by omega, by omega, by omega, ?_, ?_, ?_⟩
        · rw [takeD _ c2]
          intro b hb
          simp only [List.mem_cons, List.not_mem_nil, or_false] at hb
          rcases hb with rfl | rfl | rfl | rfl
          · omega
          · omega
          · omega
          · omega
        · unfold runeLen; repeat' split
          all_goals omega
        · unfold Lib.validRune; rw [decide_eq_true_iff]; omega
      · simp only [Prod.mk.injEq] at e
        exact absurd e hbad
    obtain ⟨p1, p2, p3, p4, p5, p6, p7⟩ := key
    have hlk := len_take (b0 :: t0) k hle
    exact ⟨(b0 :: t0).take k, (b0 :: t0).drop k, c, (List.take_append_drop _ _).symm, by rw [hD, hlk], p1, p2, p5, by omega, by omega, henc, by rw [hlk]; exact p6, p7, hs.symm⟩
end Go.Proofs.YtmcoloapiiakbaaGreatDoor.Utf
